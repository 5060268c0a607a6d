/- Lemmas and walks that the proof of this claim uses: D7m16, D7m19, D7m20, D7m23, D7m24, D7m25, Tb22. -/
import Derived.Test.YtmmefcihahcchaaBulkAdds3
set_option linter.unusedVariables false
set_option linter.unusedSimpArgs false
namespace Go.D7
open Go.Tb Go.Proofs Go.RowKit
theorem Tc52 : callable Try.prog 52 = true := by kernel_rfl
set_option maxRecDepth 20000 in
set_option maxHeartbeats 1000000 in
theorem ref07_CopyTable_ok {a0 : List (List Int)} {A_a0 : Option Addr} {c_a0 : Nat} {w : World} {res : (List (List Int))} (h_a0 : Sl2 w A_a0 c_a0 1 encN a0) (F : ref07_CopyTable a0 = some res) : Calls Try.prog 52 #[.slice A_a0 a0.length c_a0] w (fun e w' => ∃ (A1 : Option Addr) (c1 : Nat) (hs0 : List (Option Addr × Nat)), e = .returned (.slice A1 res.length c1) ∧ Hp w w' [.tab A1 c1 22 hs0 3 1 (encM encN res)]) := by
  refine calls_of_cw (args := [.slice A_a0 a0.length c_a0]) Try.func52 rfl rfl rfl rfl ?_
  have H := Hp.start w
  have R0 := H.ext
  unfold ref07_CopyTable at F
  refine CW.seq fun K1 hK1 => ?_
  refine CW.region ?_
  refine LW.pure rfl rfl (RV.assign rfl) ?_
  refine LW.nil (hK1 _ _ ?_)
  refine CW.seq fun K2 hK2 => ?_
  refine CW.region ?_
  refine LW.pure rfl rfl (RV.assign rfl) ?_
  refine LW.nil (hK2 _ _ ?_)
  refine CW.seqJ (fun ρ wl1 => (∃ (m1 : List (List Int)) (hsm1 : List (Option Addr × Nat)) (Am1 : Option Addr) (cm1 : Nat), ref07_CopyTable_k1 m1 = some res ∧ ρ = [(2, .slice none 0 0), (3, .slice Am1 m1.length cm1)] ∧ Hp w wl1 [.tab Am1 cm1 22 hsm1 3 1 (encM encN m1)])) ?_ ?_
  ·
    rintro _ wl1 ⟨m1, hsm1, Am1, cm1, F, rfl, H⟩
    have R0 := H.ext
    unfold ref07_CopyTable_k1 at F
    refine CW.seq fun K3 hK3 => ?_
    refine CW.region ?_
    refine LW.pure rfl rfl (RV.move rfl) ?_
    refine LW.pure rfl rfl (RV.assign rfl) ?_
    refine LW.nil (hK3 _ _ ?_)
    refine CW.ret ?_
    obtain rfl := Option.some.inj F
    refine ⟨_, (ResOK.one rfl), ?_⟩
    exact ⟨Am1, cm1, hsm1, (by first | rfl | (simp; done) | (simp; omega)), H⟩
  ·
    intro K4 hK4 jK38
    refine CW.seq fun K5 hK5 => ?_
    refine CW.region ?_
    refine LW.pure rfl rfl (RV.assign rfl) ?_
    refine LW.nil (hK5 _ _ ?_)
    refine CW.block ?_
    replace H := H.nilTab encN 22 3 1
    replace R0 := H.ext
    refine CW.loop (fun meas ρ wl2 => ∃ (t4_1 : Int) (m2 : List (List Int)) (hsm2 : List (Option Addr × Nat)) (Am2 : Option Addr) (cm2 : Nat), ref07_CopyTable_L1 a0 meas t4_1 m2 = some res ∧ ρ = [(0, .slice A_a0 a0.length c_a0), (2, .slice none 0 0), (3, .slice Am2 m2.length cm2), (4, .int .i64 t4_1)] ∧ Hp w wl2 [.tab Am2 cm2 22 hsm2 3 1 (encM encN m2)]) FU ⟨_, ?_, ((0 : Int)), (([] : List (List Int))), ([]), none, 0, F, rfl, H⟩ ?_
    · exact ⟨rfl, rfl, (look_slice rfl (by first | rfl | (simp; done) | (simp; omega))), rfl, trivial⟩
    rintro mk1 _ wl2 ⟨t4_1, m2, hsm2, Am2, cm2, F, rfl, H⟩
    have R0 := H.ext
    replace F := ref07_CopyTable_L1_s F
    obtain ⟨mk1, rfl, F⟩ := F
    generalize hrec1 : ref07_CopyTable_L1 a0 mk1 = rec1 at F
    unfold ref07_CopyTable_B1 at F
    refine CW.seq fun K6 hK6 => ?_
    refine CW.seq fun K7 hK7 => ?_
    refine CW.region ?_
    refine LW.pure rfl rfl (RV.move rfl) ?_
    refine LW.pure rfl rfl (RV.move rfl) ?_
    refine LW.pure rfl rfl (RV.len Ts23 rfl) ?_
    refine LW.pure rfl rfl (RV.lss rfl rfl) ?_
    refine LW.nil (hK7 _ _ ?_)
    by_cases hp1 : t4_1 < ((a0.length : Int))
    ·
      replace F := ite_y hp1 F
      have hq1 := dec_t hp1
      refine CW.condT rfl hq1 ?_
      refine CW.skip (hK6 _ _ ?_)
      refine CW.seq fun K8 hK8 => ?_
      refine CW.block ?_
      obtain ⟨x1, hbx1, hx1, F⟩ := ix_some F
      obtain ⟨hg1, F⟩ := gd_some F
      obtain ⟨hg2, F⟩ := gd_some F
      refine CW.region ?_
      refine LW.pure rfl rfl (RV.move rfl) ?_
      refine LW.go rfl rfl (OW.buildSlice (e := 3) (vs := []) (cs := []) rfl (fun _ => by kernel_rfl) fun b1 w1 N1 => ?_)
      replace H := H.made' (k := 1) (t := 3) (enc := encN) (l := ([] : List Int)) N1 N1.blk (fun _ => rfl) rfl (by first | decide | omega | (simp; done) | (simp; omega))
      replace R0 := H.ext
      refine LW.pure rfl rfl (RV.move rfl) ?_
      refine LW.pure rfl rfl (RV.move rfl) ?_
      obtain ⟨A2, c2, hC1, hS1⟩ := h_a0.at_ hx1
      refine LW.pure rfl rfl (RV.indexAddr Ts23 rfl rfl hbx1 (h_a0.addr hbx1)) ?_
      refine LW.pure rfl rfl (RV.load1 Tk22 rfl (hC1.ext R0) rfl) ?_
      refine LW.go rfl rfl (OW.appendG (enc := encN) (l := ([] : List Int)) (xs := x1) Ts22 (look_slice rfl (by first | rfl | (simp; done) | (simp; omega))) rfl (H.own 0 rfl) (hS1.ext R0) (fun _ => rfl) rfl rfl hg1 (by decide) fun A3 c3 w2 O1 M1 D1 => ?_)
      replace H : Hp w w2 [.own A3 c3 3 1 (List.map encN ((([] : List Int) ++ x1))), .tab Am2 cm2 22 hsm2 3 1 (encM encN m2)] := H.mod 0 rfl M1 O1 D1
      replace R0 := H.ext
      refine LW.go rfl rfl (OW.buildSlice (e := 22) (vs := [.slice A3 (((([] : List Int) ++ x1)).length) c3]) (cs := [.slice A3 (((([] : List Int) ++ x1)).length) c3]) rfl (fun _ => by kernel_rfl) fun b2 w3 N2 => ?_)
      replace H := H.made' (k := 1) (t := 22) (enc := encH) (l := ([((A3, c3), List.map encN ((([] : List Int) ++ x1)))] : List ((Option Addr × Nat) × List (List Value)))) N2 (by have q := N2.blk; simp only [List.flatMap_cons, List.flatMap_nil, encH, List.length_map, List.append_nil, List.cons_append, List.nil_append]; first | done | exact q) (fun _ => rfl) rfl (by first | decide | omega | (simp; done) | (simp; omega))
      replace R0 := H.ext
      refine LW.go rfl rfl (OW.appendT (enc := encN) (m := m2) (l := (([] : List Int) ++ x1)) Ts23 rfl rfl (H.tab 2 rfl) (H.own 0 rfl).sl rfl hg2 (by decide) fun A4 c4 w4 O2 M2 D2 => ?_)
      replace H : Hp w w4 [.own (some ⟨b2, 0, none⟩) ((([((A3, c3), List.map encN ((([] : List Int) ++ x1)))] : List ((Option Addr × Nat) × List (List Value)))).length) 22 1 (List.map encH (([((A3, c3), List.map encN ((([] : List Int) ++ x1)))] : List ((Option Addr × Nat) × List (List Value))))), .tab A4 c4 22 ((hsm2 ++ [(A3, c3)])) 3 1 (encM encN ((m2 ++ [(([] : List Int) ++ x1)])))] := H.tabPush 2 1 (by decide) rfl rfl M2 D2 O2
      replace R0 := H.ext
      refine LW.pure rfl rfl (RV.assign rfl) ?_
      refine LW.nil (hK8 _ _ ?_)
      obtain ⟨hg3, F⟩ := gd_some F
      refine CW.region ?_
      refine LW.pure rfl rfl (RV.move rfl) ?_
      refine LW.pure rfl rfl (RV.add rfl rfl hg3) ?_
      refine LW.pure rfl rfl (RV.assign rfl) ?_
      refine LW.nil ?_
      replace H := H.pick (L' := [.tab A4 c4 22 ((hsm2 ++ [(A3, c3)])) 3 1 (encM encN ((m2 ++ [(([] : List Int) ++ x1)])))]) [1] (by decide) rfl
      replace R0 := H.ext
      subst hrec1
      refine ⟨mk1, Nat.lt_succ_self _, _, ?_, (t4_1 + 1), ((m2 ++ [(([] : List Int) ++ x1)])), ((hsm2 ++ [(A3, c3)])), A4, c4, F, rfl, H⟩
      exact ⟨rfl, rfl, (look_slice rfl (by first | rfl | (simp; done) | (simp; omega))), rfl, trivial⟩
    ·
      replace F := ite_n hp1 F
      have hq1 := dec_f hp1
      refine CW.condF rfl hq1 ?_
      refine CW.exit (jK38 _ _ ⟨_, ?_, ⟨m2, hsm2, Am2, cm2, F, rfl, H⟩⟩)
      exact ⟨rfl, (look_slice rfl (by first | rfl | (simp; done) | (simp; omega))), trivial⟩
end Go.D7

set_option linter.unusedVariables false
set_option linter.unusedSimpArgs false
namespace Go.D7
open Go.Tb Go.Proofs Go.RowKit
theorem Tc65 : callable Try.prog 65 = true := by kernel_rfl
set_option maxRecDepth 20000 in
set_option maxHeartbeats 1000000 in
theorem bulk_copied_ok {a0 : Trade} {A_a0_supply : Option Addr} {c_a0_supply : Nat} {A_a0_demand : Option Addr} {c_a0_demand : Nat} {A_a0_cost : Option Addr} {c_a0_cost : Nat} {w : World} {res : Trade} (h_a0_supply : Sl w A_a0_supply c_a0_supply 1 (a0.supply.map encN)) (h_a0_demand : Sl w A_a0_demand c_a0_demand 1 (a0.demand.map encN)) (h_a0_cost : Sl2 w A_a0_cost c_a0_cost 1 encN a0.cost) (F : bulk_copied a0 = some res) : Calls Try.prog 65 #[.agg #[.slice A_a0_supply a0.supply.length c_a0_supply, .slice A_a0_demand a0.demand.length c_a0_demand, .slice A_a0_cost a0.cost.length c_a0_cost]] w (fun e w' => ∃ (A0_supply : Option Addr) (c0_supply : Nat) (A0_demand : Option Addr) (c0_demand : Nat) (A0_cost : Option Addr) (c0_cost : Nat) (hs0_cost : List (Option Addr × Nat)), e = .returned (.agg #[.slice A0_supply res.supply.length c0_supply, .slice A0_demand res.demand.length c0_demand, .slice A0_cost res.cost.length c0_cost]) ∧ Hp w w' [.own A0_supply c0_supply 3 1 (List.map encN res.supply), .own A0_demand c0_demand 3 1 (List.map encN res.demand), .tab A0_cost c0_cost 22 hs0_cost 3 1 (encM encN res.cost)]) := by
  refine calls_of_cw (args := [.agg #[.slice A_a0_supply a0.supply.length c_a0_supply, .slice A_a0_demand a0.demand.length c_a0_demand, .slice A_a0_cost a0.cost.length c_a0_cost]]) Try.func65 rfl rfl rfl rfl ?_
  have H := Hp.start w
  have R0 := H.ext
  unfold bulk_copied at F
  refine CW.seq fun K1 hK1 => ?_
  refine CW.region ?_
  refine LW.go rfl rfl (OW.box rfl fun b1 w1 N1 => ?_)
  replace H := H.new N1 N1.blk
  replace R0 := H.ext
  refine LW.go rfl rfl (OW.alloc Tz25 fun b2 w2 N2 => ?_)
  replace H := H.new N2 N2.blk
  replace R0 := H.ext
  refine LW.nil (hK1 _ _ ?_)
  refine CW.seq fun K2 hK2 => ?_
  obtain ⟨r1, hr1, F⟩ := bnd_some F
  obtain ⟨r2, hr2, F⟩ := bnd_some F
  obtain ⟨r3, hr3, F⟩ := bnd_some F
  refine CW.draw [10] (fun _ => True) (.cons 0 1 (.cons 1 1 (.cons 3 1 (.cons 4 1 (.cons 6 1 (.cons 7 1 (.cons 2 0 (.cons 5 0 (.cons 8 0 (.cons 9 1 (.cons 10 0 .nil))))))))))) mixed (by kernel_rfl) fun w3 E1 => ?_
  replace H := H.grow E1
  replace R0 := H.ext
  refine DW.fix rfl rfl rfl (fun _ EQ => RV.fieldAddr Tf25_0 rfl) ?_
  refine DW.fix rfl rfl rfl (fun _ EQ => RV.load1 Tk22 rfl (((H.grow EQ).blk 1 rfl).cells.off 0) rfl) ?_
  refine DW.fix rfl rfl rfl (fun _ EQ => RV.fieldAddr Tf25_1 rfl) ?_
  refine DW.fix rfl rfl rfl (fun _ EQ => RV.load1 Tk22 rfl (((H.grow EQ).blk 1 rfl).cells.off 1) rfl) ?_
  refine DW.fix rfl rfl rfl (fun _ EQ => RV.fieldAddr Tf25_2 rfl) ?_
  refine DW.fix rfl rfl rfl (fun _ EQ => RV.load1 Tk23 rfl (((H.grow EQ).blk 1 rfl).cells.off 2) rfl) ?_
  refine DW.sole rfl rfl rfl (OW.call Tc83 rfl (slices_Clone_int_ok (a0 := a0.supply) (h_a0_supply.ext R0) hr1) ?_)
  rintro _ w4 ⟨A7_0, c7_0, rfl, E2⟩
  refine ⟨_, rfl, fun _ => E2.ext, ModX.ext E2.ext, ?_⟩
  replace H : Hp w w4 [.own A7_0 c7_0 3 1 (List.map encN r1), .blk b2 25 [.slice none 0 0, .slice none 0 0, .slice none 0 0], .blk b1 25 [.slice A_a0_supply a0.supply.length c_a0_supply, .slice A_a0_demand a0.demand.length c_a0_demand, .slice A_a0_cost a0.cost.length c_a0_cost]] := H.append E2
  replace R0 := H.ext
  refine DW.sole rfl rfl rfl (OW.call Tc83 rfl (slices_Clone_int_ok (a0 := a0.demand) (h_a0_demand.ext R0) hr2) ?_)
  rintro _ w5 ⟨A8_0, c8_0, rfl, E3⟩
  refine ⟨_, rfl, fun _ => E3.ext, ModX.ext E3.ext, ?_⟩
  replace H : Hp w w5 [.own A8_0 c8_0 3 1 (List.map encN r2), .own A7_0 c7_0 3 1 (List.map encN r1), .blk b2 25 [.slice none 0 0, .slice none 0 0, .slice none 0 0], .blk b1 25 [.slice A_a0_supply a0.supply.length c_a0_supply, .slice A_a0_demand a0.demand.length c_a0_demand, .slice A_a0_cost a0.cost.length c_a0_cost]] := H.append E3
  replace R0 := H.ext
  refine DW.sole rfl rfl rfl (OW.call Tc88 rfl (bulk_clone_ok (a0 := a0.cost) (h_a0_cost.ext R0) hr3) ?_)
  rintro _ w6 ⟨A9_0, c9_0, hs9_0, rfl, E4⟩
  refine ⟨_, rfl, fun _ => E4.ext, ModX.ext E4.ext, ?_⟩
  replace H : Hp w w6 [.tab A9_0 c9_0 22 hs9_0 3 1 (encM encN r3), .own A8_0 c8_0 3 1 (List.map encN r2), .own A7_0 c7_0 3 1 (List.map encN r1), .blk b2 25 [.slice none 0 0, .slice none 0 0, .slice none 0 0], .blk b1 25 [.slice A_a0_supply a0.supply.length c_a0_supply, .slice A_a0_demand a0.demand.length c_a0_demand, .slice A_a0_cost a0.cost.length c_a0_cost]] := H.append E4
  replace R0 := H.ext
  refine DW.fix rfl rfl rfl (fun _ EQ => RV.build (vs := [.slice A7_0 r1.length c7_0, .slice A8_0 r2.length c8_0, .slice A9_0 r3.length c9_0]) (cs := [.slice A7_0 r1.length c7_0, .slice A8_0 r2.length c8_0, .slice A9_0 r3.length c9_0]) rfl (fun _ => by kernel_rfl)) ?_
  refine DW.sole rfl rfl rfl (OW.store Tk25 rfl rfl (H.blk 3 rfl) (off := 0) (vs := [.slice A7_0 r1.length c7_0, .slice A8_0 r2.length c8_0, .slice A9_0 r3.length c9_0]) rfl rfl rfl rfl rfl fun w7 S1 => ?_)
  refine ⟨fun h => absurd h (by decide), S1.modx trivial, ?_⟩
  replace H : Hp w w7 [.tab A9_0 c9_0 22 hs9_0 3 1 (encM encN r3), .own A8_0 c8_0 3 1 (List.map encN r2), .own A7_0 c7_0 3 1 (List.map encN r1), .blk b2 25 [.slice A7_0 r1.length c7_0, .slice A8_0 r2.length c8_0, .slice A9_0 r3.length c9_0], .blk b1 25 [.slice A_a0_supply a0.supply.length c_a0_supply, .slice A_a0_demand a0.demand.length c_a0_demand, .slice A_a0_cost a0.cost.length c_a0_cost]] := H.stored 3 rfl S1
  replace R0 := H.ext
  refine DW.nil (hK2 _ _ ?_)
  refine CW.ret ?_
  obtain rfl := Option.some.inj F
  refine ⟨_, (ResOK.cell1 ⟨_, rfl, run_loadVar_agg Tk25 (H.blk 3 rfl).cells (us := [.slice A7_0 r1.length c7_0, .slice A8_0 r2.length c8_0, .slice A9_0 r3.length c9_0]) rfl rfl⟩), ?_⟩
  replace H := H.pick (L' := [.own A7_0 c7_0 3 1 (List.map encN r1), .own A8_0 c8_0 3 1 (List.map encN r2), .tab A9_0 c9_0 22 hs9_0 3 1 (encM encN r3)]) [2, 1, 0] (by decide) rfl
  replace R0 := H.ext
  exact ⟨A7_0, c7_0, A8_0, c8_0, A9_0, c9_0, hs9_0, (by first | rfl | (simp; done) | (simp; omega)), H⟩
set_option maxRecDepth 20000 in
set_option maxHeartbeats 1000000 in
theorem ref07_Copy_ok {a0 : Trade} {A_a0_supply : Option Addr} {c_a0_supply : Nat} {A_a0_demand : Option Addr} {c_a0_demand : Nat} {A_a0_cost : Option Addr} {c_a0_cost : Nat} {w : World} {res : Trade} (h_a0_supply : Sl w A_a0_supply c_a0_supply 1 (a0.supply.map encN)) (h_a0_demand : Sl w A_a0_demand c_a0_demand 1 (a0.demand.map encN)) (h_a0_cost : Sl2 w A_a0_cost c_a0_cost 1 encN a0.cost) (F : ref07_Copy a0 = some res) : Calls Try.prog 66 #[.agg #[.slice A_a0_supply a0.supply.length c_a0_supply, .slice A_a0_demand a0.demand.length c_a0_demand, .slice A_a0_cost a0.cost.length c_a0_cost]] w (fun e w' => ∃ (A0_supply : Option Addr) (c0_supply : Nat) (A0_demand : Option Addr) (c0_demand : Nat) (A0_cost : Option Addr) (c0_cost : Nat) (hs0_cost : List (Option Addr × Nat)), e = .returned (.agg #[.slice A0_supply res.supply.length c0_supply, .slice A0_demand res.demand.length c0_demand, .slice A0_cost res.cost.length c0_cost]) ∧ Hp w w' [.own A0_supply c0_supply 3 1 (List.map encN res.supply), .own A0_demand c0_demand 3 1 (List.map encN res.demand), .tab A0_cost c0_cost 22 hs0_cost 3 1 (encM encN res.cost)]) := by
  refine calls_of_cw (args := [.agg #[.slice A_a0_supply a0.supply.length c_a0_supply, .slice A_a0_demand a0.demand.length c_a0_demand, .slice A_a0_cost a0.cost.length c_a0_cost]]) Try.func66 rfl rfl rfl rfl ?_
  have H := Hp.start w
  have R0 := H.ext
  unfold ref07_Copy at F
  refine CW.seq fun K1 hK1 => ?_
  refine CW.region ?_
  refine LW.go rfl rfl (OW.box rfl fun b1 w1 N1 => ?_)
  replace H := H.new N1 N1.blk
  replace R0 := H.ext
  refine LW.go rfl rfl (OW.alloc Tz25 fun b2 w2 N2 => ?_)
  replace H := H.new N2 N2.blk
  replace R0 := H.ext
  refine LW.nil (hK1 _ _ ?_)
  refine CW.seq fun K2 hK2 => ?_
  obtain ⟨hg1, F⟩ := gd_some F
  obtain ⟨hg2, F⟩ := gd_some F
  obtain ⟨r1, hr1, F⟩ := bnd_some F
  have H0 := H
  have hz : w2.heap.size ≤ w2.heap.size := Nat.le_refl _
  refine CW.draw [3, 7, 12] (XB w2 [.blk b2 25 [.slice none 0 0, .slice none 0 0, .slice none 0 0], .blk b1 25 [.slice A_a0_supply a0.supply.length c_a0_supply, .slice A_a0_demand a0.demand.length c_a0_demand, .slice A_a0_cost a0.cost.length c_a0_cost]] [0]) (.cons 1 2 (.cons 2 2 (.cons 5 2 (.cons 6 2 (.cons 8 2 (.cons 9 2 (.alt 0 (.alt 3 (.cons 4 0 (.cons 7 0 (.cons 10 0 (.cons 11 2 (.cons 12 0 .nil))))) (.cons 4 0 (.cons 3 0 (.cons 7 0 (.cons 10 0 (.cons 11 2 (.cons 12 0 .nil))))))) (.cons 4 0 (.cons 0 0 (.cons 3 0 (.cons 7 0 (.cons 10 0 (.cons 11 2 (.cons 12 0 .nil)))))))))))))) mixed (by kernel_rfl) fun w3 E1 => ?_
  replace H := H.grow E1
  replace R0 := H.ext
  replace hz := Nat.le_trans hz (Ext.size E1)
  refine DW.thru rfl rfl rfl (fun _ EQ => RV.fieldAddr Tf25_0 rfl) ?_
  refine DW.thru rfl rfl rfl (fun _ EQ => RV.load1 Tk22 rfl ((H.thruB 1 rfl EQ (H0.notX [0] 1 rfl (by decide))).cells.off 0) rfl) ?_
  refine DW.thru rfl rfl rfl (fun _ EQ => RV.fieldAddr Tf25_1 rfl) ?_
  refine DW.thru rfl rfl rfl (fun _ EQ => RV.load1 Tk22 rfl ((H.thruB 1 rfl EQ (H0.notX [0] 1 rfl (by decide))).cells.off 1) rfl) ?_
  refine DW.thru rfl rfl rfl (fun _ EQ => RV.fieldAddr Tf25_2 rfl) ?_
  refine DW.thru rfl rfl rfl (fun _ EQ => RV.load1 Tk23 rfl ((H.thruB 1 rfl EQ (H0.notX [0] 1 rfl (by decide))).cells.off 2) rfl) ?_
  refine DW.alt ?_ ?_
  ·
    refine DW.sole rfl rfl rfl (OW.buildSlice (e := 3) (vs := []) (cs := []) rfl (fun _ => by kernel_rfl) fun b3 w4 N3 => ?_)
    refine ⟨fun _ => N3.ext, ModX.ext N3.ext, ?_⟩
    have G0_b3 : w2.heap.size ≤ b3 := by rw [N3.at_]; exact hz
    replace H := H.made' (k := 1) (t := 3) (enc := encN) (l := ([] : List Int)) N3 N3.blk (fun _ => rfl) rfl (by first | decide | omega | (simp; done) | (simp; omega))
    replace R0 := H.ext
    replace hz := Nat.le_trans hz (Ext.size N3.ext)
    refine DW.alt ?_ ?_
    ·
      refine DW.sole rfl rfl rfl (OW.appendG (enc := encN) (l := ([] : List Int)) (xs := a0.supply) Ts22 (look_slice rfl (by first | rfl | (simp; done) | (simp; omega))) rfl (H.own 0 rfl) (h_a0_supply.ext R0) (fun _ => rfl) rfl rfl hg1 (by decide) fun A1 c1 w5 O1 M1 D1 => ?_)
      have G0_A1 := Fresh.nextZ (Fresh.at_ G0_b3) D1 hz
      refine ⟨fun h => absurd h (by decide), M1.modx (XB.newA (Fresh.at_ G0_b3)), ?_⟩
      replace H : Hp w w5 [.own A1 c1 3 1 (List.map encN ((([] : List Int) ++ a0.supply))), .blk b2 25 [.slice none 0 0, .slice none 0 0, .slice none 0 0], .blk b1 25 [.slice A_a0_supply a0.supply.length c_a0_supply, .slice A_a0_demand a0.demand.length c_a0_demand, .slice A_a0_cost a0.cost.length c_a0_cost]] := H.mod 0 rfl M1 O1 D1
      replace R0 := H.ext
      replace hz := Nat.le_trans hz M1.size
      refine DW.sole rfl rfl rfl (OW.buildSlice (e := 3) (vs := []) (cs := []) rfl (fun _ => by kernel_rfl) fun b4 w6 N4 => ?_)
      refine ⟨fun _ => N4.ext, ModX.ext N4.ext, ?_⟩
      have G0_b4 : w2.heap.size ≤ b4 := by rw [N4.at_]; exact hz
      replace H := H.made' (k := 1) (t := 3) (enc := encN) (l := ([] : List Int)) N4 N4.blk (fun _ => rfl) rfl (by first | decide | omega | (simp; done) | (simp; omega))
      replace R0 := H.ext
      replace hz := Nat.le_trans hz (Ext.size N4.ext)
      refine DW.sole rfl rfl rfl (OW.appendG (enc := encN) (l := ([] : List Int)) (xs := a0.demand) Ts22 (look_slice rfl (by first | rfl | (simp; done) | (simp; omega))) rfl (H.own 0 rfl) (h_a0_demand.ext R0) (fun _ => rfl) rfl rfl hg2 (by decide) fun A2 c2 w7 O2 M2 D2 => ?_)
      have G0_A2 := Fresh.nextZ (Fresh.at_ G0_b4) D2 hz
      refine ⟨fun h => absurd h (by decide), M2.modx (XB.newA (Fresh.at_ G0_b4)), ?_⟩
      replace H : Hp w w7 [.own A2 c2 3 1 (List.map encN ((([] : List Int) ++ a0.demand))), .own A1 c1 3 1 (List.map encN ((([] : List Int) ++ a0.supply))), .blk b2 25 [.slice none 0 0, .slice none 0 0, .slice none 0 0], .blk b1 25 [.slice A_a0_supply a0.supply.length c_a0_supply, .slice A_a0_demand a0.demand.length c_a0_demand, .slice A_a0_cost a0.cost.length c_a0_cost]] := H.mod 0 rfl M2 O2 D2
      replace R0 := H.ext
      replace hz := Nat.le_trans hz M2.size
      refine DW.sole rfl rfl rfl (OW.call Tc52 rfl (ref07_CopyTable_ok (a0 := a0.cost) (h_a0_cost.ext R0) hr1) ?_)
      rintro _ w8 ⟨A4_0, c4_0, hs4_0, rfl, E2⟩
      refine ⟨_, rfl, fun _ => E2.ext, ModX.ext E2.ext, ?_⟩
      replace H : Hp w w8 [.tab A4_0 c4_0 22 hs4_0 3 1 (encM encN r1), .own A2 c2 3 1 (List.map encN ((([] : List Int) ++ a0.demand))), .own A1 c1 3 1 (List.map encN ((([] : List Int) ++ a0.supply))), .blk b2 25 [.slice none 0 0, .slice none 0 0, .slice none 0 0], .blk b1 25 [.slice A_a0_supply a0.supply.length c_a0_supply, .slice A_a0_demand a0.demand.length c_a0_demand, .slice A_a0_cost a0.cost.length c_a0_cost]] := H.append E2
      replace R0 := H.ext
      replace hz := Nat.le_trans hz (Ext.size E2.ext)
      refine DW.thru rfl rfl rfl (fun _ EQ => RV.build (vs := [.slice A1 (((([] : List Int) ++ a0.supply)).length) c1, .slice A2 (((([] : List Int) ++ a0.demand)).length) c2, .slice A4_0 r1.length c4_0]) (cs := [.slice A1 (((([] : List Int) ++ a0.supply)).length) c1, .slice A2 (((([] : List Int) ++ a0.demand)).length) c2, .slice A4_0 r1.length c4_0]) rfl (fun _ => by kernel_rfl)) ?_
      refine DW.sole rfl rfl rfl (OW.store Tk25 rfl rfl (H.blk 3 rfl) (off := 0) (vs := [.slice A1 (((([] : List Int) ++ a0.supply)).length) c1, .slice A2 (((([] : List Int) ++ a0.demand)).length) c2, .slice A4_0 r1.length c4_0]) rfl rfl rfl rfl rfl fun w9 S1 => ?_)
      refine ⟨fun h => absurd h (by decide), S1.modx (XB.in_ 0 (by decide) rfl (List.mem_singleton.2 rfl)), ?_⟩
      replace H : Hp w w9 [.tab A4_0 c4_0 22 hs4_0 3 1 (encM encN r1), .own A2 c2 3 1 (List.map encN ((([] : List Int) ++ a0.demand))), .own A1 c1 3 1 (List.map encN ((([] : List Int) ++ a0.supply))), .blk b2 25 [.slice A1 (((([] : List Int) ++ a0.supply)).length) c1, .slice A2 (((([] : List Int) ++ a0.demand)).length) c2, .slice A4_0 r1.length c4_0], .blk b1 25 [.slice A_a0_supply a0.supply.length c_a0_supply, .slice A_a0_demand a0.demand.length c_a0_demand, .slice A_a0_cost a0.cost.length c_a0_cost]] := H.stored 3 rfl S1
      replace R0 := H.ext
      replace hz := Nat.le_trans hz (Nat.le_of_eq S1.size.symm)
      refine DW.nil (hK2 _ _ ?_)
      refine CW.ret ?_
      obtain rfl := Option.some.inj F
      refine ⟨_, (ResOK.cell1 ⟨_, rfl, run_loadVar_agg Tk25 (H.blk 3 rfl).cells (us := [.slice A1 (((([] : List Int) ++ a0.supply)).length) c1, .slice A2 (((([] : List Int) ++ a0.demand)).length) c2, .slice A4_0 r1.length c4_0]) rfl rfl⟩), ?_⟩
      replace H := H.pick (L' := [.own A1 c1 3 1 (List.map encN ((([] : List Int) ++ a0.supply))), .own A2 c2 3 1 (List.map encN ((([] : List Int) ++ a0.demand))), .tab A4_0 c4_0 22 hs4_0 3 1 (encM encN r1)]) [2, 1, 0] (by decide) rfl
      replace R0 := H.ext
      exact ⟨A1, c1, A2, c2, A4_0, c4_0, hs4_0, (by first | rfl | (simp; done) | (simp; omega)), H⟩
    ·
      refine DW.sole rfl rfl rfl (OW.buildSlice (e := 3) (vs := []) (cs := []) rfl (fun _ => by kernel_rfl) fun b5 w10 N5 => ?_)
      refine ⟨fun _ => N5.ext, ModX.ext N5.ext, ?_⟩
      have G0_b5 : w2.heap.size ≤ b5 := by rw [N5.at_]; exact hz
      replace H := H.made' (k := 1) (t := 3) (enc := encN) (l := ([] : List Int)) N5 N5.blk (fun _ => rfl) rfl (by first | decide | omega | (simp; done) | (simp; omega))
      replace R0 := H.ext
      replace hz := Nat.le_trans hz (Ext.size N5.ext)
      refine DW.sole rfl rfl rfl (OW.appendG (enc := encN) (l := ([] : List Int)) (xs := a0.supply) Ts22 (look_slice rfl (by first | rfl | (simp; done) | (simp; omega))) rfl (H.own 1 rfl) (h_a0_supply.ext R0) (fun _ => rfl) rfl rfl hg1 (by decide) fun A3 c3 w11 O3 M3 D3 => ?_)
      have G0_A3 := Fresh.nextZ (Fresh.at_ G0_b3) D3 hz
      refine ⟨fun h => absurd h (by decide), M3.modx (XB.newA (Fresh.at_ G0_b3)), ?_⟩
      replace H : Hp w w11 [.own (some ⟨b5, 0, none⟩) ((([] : List Int)).length) 3 1 (List.map encN (([] : List Int))), .own A3 c3 3 1 (List.map encN ((([] : List Int) ++ a0.supply))), .blk b2 25 [.slice none 0 0, .slice none 0 0, .slice none 0 0], .blk b1 25 [.slice A_a0_supply a0.supply.length c_a0_supply, .slice A_a0_demand a0.demand.length c_a0_demand, .slice A_a0_cost a0.cost.length c_a0_cost]] := H.mod 1 rfl M3 O3 D3
      replace R0 := H.ext
      replace hz := Nat.le_trans hz M3.size
      refine DW.sole rfl rfl rfl (OW.appendG (enc := encN) (l := ([] : List Int)) (xs := a0.demand) Ts22 (look_slice rfl (by first | rfl | (simp; done) | (simp; omega))) rfl (H.own 0 rfl) (h_a0_demand.ext R0) (fun _ => rfl) rfl rfl hg2 (by decide) fun A4 c4 w12 O4 M4 D4 => ?_)
      have G0_A4 := Fresh.nextZ (Fresh.at_ G0_b5) D4 hz
      refine ⟨fun h => absurd h (by decide), M4.modx (XB.newA (Fresh.at_ G0_b5)), ?_⟩
      replace H : Hp w w12 [.own A4 c4 3 1 (List.map encN ((([] : List Int) ++ a0.demand))), .own A3 c3 3 1 (List.map encN ((([] : List Int) ++ a0.supply))), .blk b2 25 [.slice none 0 0, .slice none 0 0, .slice none 0 0], .blk b1 25 [.slice A_a0_supply a0.supply.length c_a0_supply, .slice A_a0_demand a0.demand.length c_a0_demand, .slice A_a0_cost a0.cost.length c_a0_cost]] := H.mod 0 rfl M4 O4 D4
      replace R0 := H.ext
      replace hz := Nat.le_trans hz M4.size
      refine DW.sole rfl rfl rfl (OW.call Tc52 rfl (ref07_CopyTable_ok (a0 := a0.cost) (h_a0_cost.ext R0) hr1) ?_)
      rintro _ w13 ⟨A5_0, c5_0, hs5_0, rfl, E3⟩
      refine ⟨_, rfl, fun _ => E3.ext, ModX.ext E3.ext, ?_⟩
      replace H : Hp w w13 [.tab A5_0 c5_0 22 hs5_0 3 1 (encM encN r1), .own A4 c4 3 1 (List.map encN ((([] : List Int) ++ a0.demand))), .own A3 c3 3 1 (List.map encN ((([] : List Int) ++ a0.supply))), .blk b2 25 [.slice none 0 0, .slice none 0 0, .slice none 0 0], .blk b1 25 [.slice A_a0_supply a0.supply.length c_a0_supply, .slice A_a0_demand a0.demand.length c_a0_demand, .slice A_a0_cost a0.cost.length c_a0_cost]] := H.append E3
      replace R0 := H.ext
      replace hz := Nat.le_trans hz (Ext.size E3.ext)
      refine DW.thru rfl rfl rfl (fun _ EQ => RV.build (vs := [.slice A3 (((([] : List Int) ++ a0.supply)).length) c3, .slice A4 (((([] : List Int) ++ a0.demand)).length) c4, .slice A5_0 r1.length c5_0]) (cs := [.slice A3 (((([] : List Int) ++ a0.supply)).length) c3, .slice A4 (((([] : List Int) ++ a0.demand)).length) c4, .slice A5_0 r1.length c5_0]) rfl (fun _ => by kernel_rfl)) ?_
      refine DW.sole rfl rfl rfl (OW.store Tk25 rfl rfl (H.blk 3 rfl) (off := 0) (vs := [.slice A3 (((([] : List Int) ++ a0.supply)).length) c3, .slice A4 (((([] : List Int) ++ a0.demand)).length) c4, .slice A5_0 r1.length c5_0]) rfl rfl rfl rfl rfl fun w14 S2 => ?_)
      refine ⟨fun h => absurd h (by decide), S2.modx (XB.in_ 0 (by decide) rfl (List.mem_singleton.2 rfl)), ?_⟩
      replace H : Hp w w14 [.tab A5_0 c5_0 22 hs5_0 3 1 (encM encN r1), .own A4 c4 3 1 (List.map encN ((([] : List Int) ++ a0.demand))), .own A3 c3 3 1 (List.map encN ((([] : List Int) ++ a0.supply))), .blk b2 25 [.slice A3 (((([] : List Int) ++ a0.supply)).length) c3, .slice A4 (((([] : List Int) ++ a0.demand)).length) c4, .slice A5_0 r1.length c5_0], .blk b1 25 [.slice A_a0_supply a0.supply.length c_a0_supply, .slice A_a0_demand a0.demand.length c_a0_demand, .slice A_a0_cost a0.cost.length c_a0_cost]] := H.stored 3 rfl S2
      replace R0 := H.ext
      replace hz := Nat.le_trans hz (Nat.le_of_eq S2.size.symm)
      refine DW.nil (hK2 _ _ ?_)
      refine CW.ret ?_
      obtain rfl := Option.some.inj F
      refine ⟨_, (ResOK.cell1 ⟨_, rfl, run_loadVar_agg Tk25 (H.blk 3 rfl).cells (us := [.slice A3 (((([] : List Int) ++ a0.supply)).length) c3, .slice A4 (((([] : List Int) ++ a0.demand)).length) c4, .slice A5_0 r1.length c5_0]) rfl rfl⟩), ?_⟩
      replace H := H.pick (L' := [.own A3 c3 3 1 (List.map encN ((([] : List Int) ++ a0.supply))), .own A4 c4 3 1 (List.map encN ((([] : List Int) ++ a0.demand))), .tab A5_0 c5_0 22 hs5_0 3 1 (encM encN r1)]) [2, 1, 0] (by decide) rfl
      replace R0 := H.ext
      exact ⟨A3, c3, A4, c4, A5_0, c5_0, hs5_0, (by first | rfl | (simp; done) | (simp; omega)), H⟩
  ·
    refine DW.sole rfl rfl rfl (OW.buildSlice (e := 3) (vs := []) (cs := []) rfl (fun _ => by kernel_rfl) fun b6 w15 N6 => ?_)
    refine ⟨fun _ => N6.ext, ModX.ext N6.ext, ?_⟩
    have G0_b6 : w2.heap.size ≤ b6 := by rw [N6.at_]; exact hz
    replace H := H.made' (k := 1) (t := 3) (enc := encN) (l := ([] : List Int)) N6 N6.blk (fun _ => rfl) rfl (by first | decide | omega | (simp; done) | (simp; omega))
    replace R0 := H.ext
    replace hz := Nat.le_trans hz (Ext.size N6.ext)
    refine DW.sole rfl rfl rfl (OW.buildSlice (e := 3) (vs := []) (cs := []) rfl (fun _ => by kernel_rfl) fun b7 w16 N7 => ?_)
    refine ⟨fun _ => N7.ext, ModX.ext N7.ext, ?_⟩
    have G0_b7 : w2.heap.size ≤ b7 := by rw [N7.at_]; exact hz
    replace H := H.made' (k := 1) (t := 3) (enc := encN) (l := ([] : List Int)) N7 N7.blk (fun _ => rfl) rfl (by first | decide | omega | (simp; done) | (simp; omega))
    replace R0 := H.ext
    replace hz := Nat.le_trans hz (Ext.size N7.ext)
    refine DW.sole rfl rfl rfl (OW.appendG (enc := encN) (l := ([] : List Int)) (xs := a0.supply) Ts22 (look_slice rfl (by first | rfl | (simp; done) | (simp; omega))) rfl (H.own 0 rfl) (h_a0_supply.ext R0) (fun _ => rfl) rfl rfl hg1 (by decide) fun A5 c5 w17 O5 M5 D5 => ?_)
    have G0_A5 := Fresh.nextZ (Fresh.at_ G0_b7) D5 hz
    refine ⟨fun h => absurd h (by decide), M5.modx (XB.newA (Fresh.at_ G0_b7)), ?_⟩
    replace H : Hp w w17 [.own A5 c5 3 1 (List.map encN ((([] : List Int) ++ a0.supply))), .own (some ⟨b6, 0, none⟩) ((([] : List Int)).length) 3 1 (List.map encN (([] : List Int))), .blk b2 25 [.slice none 0 0, .slice none 0 0, .slice none 0 0], .blk b1 25 [.slice A_a0_supply a0.supply.length c_a0_supply, .slice A_a0_demand a0.demand.length c_a0_demand, .slice A_a0_cost a0.cost.length c_a0_cost]] := H.mod 0 rfl M5 O5 D5
    replace R0 := H.ext
    replace hz := Nat.le_trans hz M5.size
    refine DW.sole rfl rfl rfl (OW.appendG (enc := encN) (l := ([] : List Int)) (xs := a0.demand) Ts22 (look_slice rfl (by first | rfl | (simp; done) | (simp; omega))) rfl (H.own 1 rfl) (h_a0_demand.ext R0) (fun _ => rfl) rfl rfl hg2 (by decide) fun A6 c6 w18 O6 M6 D6 => ?_)
    have G0_A6 := Fresh.nextZ (Fresh.at_ G0_b6) D6 hz
    refine ⟨fun h => absurd h (by decide), M6.modx (XB.newA (Fresh.at_ G0_b6)), ?_⟩
    replace H : Hp w w18 [.own A5 c5 3 1 (List.map encN ((([] : List Int) ++ a0.supply))), .own A6 c6 3 1 (List.map encN ((([] : List Int) ++ a0.demand))), .blk b2 25 [.slice none 0 0, .slice none 0 0, .slice none 0 0], .blk b1 25 [.slice A_a0_supply a0.supply.length c_a0_supply, .slice A_a0_demand a0.demand.length c_a0_demand, .slice A_a0_cost a0.cost.length c_a0_cost]] := H.mod 1 rfl M6 O6 D6
    replace R0 := H.ext
    replace hz := Nat.le_trans hz M6.size
    refine DW.sole rfl rfl rfl (OW.call Tc52 rfl (ref07_CopyTable_ok (a0 := a0.cost) (h_a0_cost.ext R0) hr1) ?_)
    rintro _ w19 ⟨A6_0, c6_0, hs6_0, rfl, E4⟩
    refine ⟨_, rfl, fun _ => E4.ext, ModX.ext E4.ext, ?_⟩
    replace H : Hp w w19 [.tab A6_0 c6_0 22 hs6_0 3 1 (encM encN r1), .own A5 c5 3 1 (List.map encN ((([] : List Int) ++ a0.supply))), .own A6 c6 3 1 (List.map encN ((([] : List Int) ++ a0.demand))), .blk b2 25 [.slice none 0 0, .slice none 0 0, .slice none 0 0], .blk b1 25 [.slice A_a0_supply a0.supply.length c_a0_supply, .slice A_a0_demand a0.demand.length c_a0_demand, .slice A_a0_cost a0.cost.length c_a0_cost]] := H.append E4
    replace R0 := H.ext
    replace hz := Nat.le_trans hz (Ext.size E4.ext)
    refine DW.thru rfl rfl rfl (fun _ EQ => RV.build (vs := [.slice A5 (((([] : List Int) ++ a0.supply)).length) c5, .slice A6 (((([] : List Int) ++ a0.demand)).length) c6, .slice A6_0 r1.length c6_0]) (cs := [.slice A5 (((([] : List Int) ++ a0.supply)).length) c5, .slice A6 (((([] : List Int) ++ a0.demand)).length) c6, .slice A6_0 r1.length c6_0]) rfl (fun _ => by kernel_rfl)) ?_
    refine DW.sole rfl rfl rfl (OW.store Tk25 rfl rfl (H.blk 3 rfl) (off := 0) (vs := [.slice A5 (((([] : List Int) ++ a0.supply)).length) c5, .slice A6 (((([] : List Int) ++ a0.demand)).length) c6, .slice A6_0 r1.length c6_0]) rfl rfl rfl rfl rfl fun w20 S3 => ?_)
    refine ⟨fun h => absurd h (by decide), S3.modx (XB.in_ 0 (by decide) rfl (List.mem_singleton.2 rfl)), ?_⟩
    replace H : Hp w w20 [.tab A6_0 c6_0 22 hs6_0 3 1 (encM encN r1), .own A5 c5 3 1 (List.map encN ((([] : List Int) ++ a0.supply))), .own A6 c6 3 1 (List.map encN ((([] : List Int) ++ a0.demand))), .blk b2 25 [.slice A5 (((([] : List Int) ++ a0.supply)).length) c5, .slice A6 (((([] : List Int) ++ a0.demand)).length) c6, .slice A6_0 r1.length c6_0], .blk b1 25 [.slice A_a0_supply a0.supply.length c_a0_supply, .slice A_a0_demand a0.demand.length c_a0_demand, .slice A_a0_cost a0.cost.length c_a0_cost]] := H.stored 3 rfl S3
    replace R0 := H.ext
    replace hz := Nat.le_trans hz (Nat.le_of_eq S3.size.symm)
    refine DW.nil (hK2 _ _ ?_)
    refine CW.ret ?_
    obtain rfl := Option.some.inj F
    refine ⟨_, (ResOK.cell1 ⟨_, rfl, run_loadVar_agg Tk25 (H.blk 3 rfl).cells (us := [.slice A5 (((([] : List Int) ++ a0.supply)).length) c5, .slice A6 (((([] : List Int) ++ a0.demand)).length) c6, .slice A6_0 r1.length c6_0]) rfl rfl⟩), ?_⟩
    replace H := H.pick (L' := [.own A5 c5 3 1 (List.map encN ((([] : List Int) ++ a0.supply))), .own A6 c6 3 1 (List.map encN ((([] : List Int) ++ a0.demand))), .tab A6_0 c6_0 22 hs6_0 3 1 (encM encN r1)]) [1, 2, 0] (by decide) rfl
    replace R0 := H.ext
    exact ⟨A5, c5, A6, c6, A6_0, c6_0, hs6_0, (by first | rfl | (simp; done) | (simp; omega)), H⟩
end Go.D7

set_option linter.unusedVariables false
set_option linter.unusedSimpArgs false
namespace Go.D7
open Go.Tb Go.Proofs Go.RowKit
theorem Tc30 : callable Try.prog 30 = true := by kernel_rfl
theorem Tc66 : callable Try.prog 66 = true := by kernel_rfl
set_option maxRecDepth 20000 in
set_option maxHeartbeats 1000000 in
theorem ref07_Same_ok {a0 : Trade} {a1 : Trade} {A_a0_supply : Option Addr} {c_a0_supply : Nat} {A_a0_demand : Option Addr} {c_a0_demand : Nat} {A_a0_cost : Option Addr} {c_a0_cost : Nat} {A_a1_supply : Option Addr} {c_a1_supply : Nat} {A_a1_demand : Option Addr} {c_a1_demand : Nat} {A_a1_cost : Option Addr} {c_a1_cost : Nat} {w : World} {res : Bool} (h_a0_supply : Sl w A_a0_supply c_a0_supply 1 (a0.supply.map encN)) (h_a0_demand : Sl w A_a0_demand c_a0_demand 1 (a0.demand.map encN)) (h_a0_cost : Sl2 w A_a0_cost c_a0_cost 1 encN a0.cost) (h_a1_supply : Sl w A_a1_supply c_a1_supply 1 (a1.supply.map encN)) (h_a1_demand : Sl w A_a1_demand c_a1_demand 1 (a1.demand.map encN)) (h_a1_cost : Sl2 w A_a1_cost c_a1_cost 1 encN a1.cost) (F : ref07_Same a0 a1 = some res) : Calls Try.prog 30 #[.agg #[.slice A_a0_supply a0.supply.length c_a0_supply, .slice A_a0_demand a0.demand.length c_a0_demand, .slice A_a0_cost a0.cost.length c_a0_cost], .agg #[.slice A_a1_supply a1.supply.length c_a1_supply, .slice A_a1_demand a1.demand.length c_a1_demand, .slice A_a1_cost a1.cost.length c_a1_cost]] w (Rt w (.bool res)) := by
  refine calls_of_cw (args := [.agg #[.slice A_a0_supply a0.supply.length c_a0_supply, .slice A_a0_demand a0.demand.length c_a0_demand, .slice A_a0_cost a0.cost.length c_a0_cost], .agg #[.slice A_a1_supply a1.supply.length c_a1_supply, .slice A_a1_demand a1.demand.length c_a1_demand, .slice A_a1_cost a1.cost.length c_a1_cost]]) Try.func30 rfl rfl rfl rfl ?_
  have H := Hp.start w
  have R0 := H.ext
  unfold ref07_Same at F
  refine CW.seq fun K1 hK1 => ?_
  refine CW.region ?_
  refine LW.go rfl rfl (OW.box rfl fun b1 w1 N1 => ?_)
  replace H := H.new N1 N1.blk
  replace R0 := H.ext
  refine LW.go rfl rfl (OW.box rfl fun b2 w2 N2 => ?_)
  replace H := H.new N2 N2.blk
  replace R0 := H.ext
  refine LW.pure rfl rfl (RV.assign rfl) ?_
  refine LW.nil (hK1 _ _ ?_)
  refine CW.seq fun K2 hK2 => ?_
  obtain ⟨r1, hr1, F⟩ := bnd_some F
  by_cases hp1 : r1 = true
  ·
    replace F := ite_y hp1 F
    have hq1 : r1 = true := hp1
    obtain ⟨r2, hr2, F⟩ := bnd_some F
    by_cases hp2 : r2 = true
    ·
      replace F := ite_y hp2 F
      have hq2 : r2 = true := hp2
      obtain ⟨r3, hr3, F⟩ := bnd_some F
      refine CW.region ?_
      refine LW.pure rfl rfl (RV.fieldAddr Tf25_0 rfl) ?_
      refine LW.pure rfl rfl (RV.load1 Tk22 rfl ((H.blk 1 rfl).cells.off 0) rfl) ?_
      refine LW.pure rfl rfl (RV.fieldAddr Tf25_0 rfl) ?_
      refine LW.pure rfl rfl (RV.load1 Tk22 rfl ((H.blk 0 rfl).cells.off 0) rfl) ?_
      refine LW.go rfl rfl (OW.call Tc67 rfl (ref07_SameInts_ok (a0 := a0.supply) (a1 := a1.supply) (h_a0_supply.ext R0) (h_a1_supply.ext R0) hr1) ?_)
      rintro _ w3 ⟨rfl, E1⟩
      refine ⟨_, rfl, ?_⟩
      replace H := H.grow E1
      replace R0 := H.ext
      refine LW.pure rfl rfl (RV.move rfl) ?_
      refine LW.pureYB rfl rfl rfl rfl hq1 (RV.fieldAddr Tf25_1 rfl) ?_
      refine LW.pureYB rfl rfl rfl rfl hq1 (RV.load1 Tk22 rfl ((H.blk 1 rfl).cells.off 1) rfl) ?_
      refine LW.pureYB rfl rfl rfl rfl hq1 (RV.fieldAddr Tf25_1 rfl) ?_
      refine LW.pureYB rfl rfl rfl rfl hq1 (RV.load1 Tk22 rfl ((H.blk 0 rfl).cells.off 1) rfl) ?_
      refine LW.yesB rfl rfl rfl rfl hq1 (OW.call Tc67 rfl (ref07_SameInts_ok (a0 := a0.demand) (a1 := a1.demand) (h_a0_demand.ext R0) (h_a1_demand.ext R0) hr2) ?_)
      rintro _ w4 ⟨rfl, E2⟩
      refine ⟨_, rfl, ?_⟩
      replace H := H.grow E2
      replace R0 := H.ext
      refine LW.pure rfl rfl (RV.pickTB rfl hq1 rfl) ?_
      refine LW.pure rfl rfl (RV.move rfl) ?_
      refine LW.pureYB rfl rfl rfl rfl hq2 (RV.fieldAddr Tf25_2 rfl) ?_
      refine LW.pureYB rfl rfl rfl rfl hq2 (RV.load1 Tk23 rfl ((H.blk 1 rfl).cells.off 2) rfl) ?_
      refine LW.pureYB rfl rfl rfl rfl hq2 (RV.fieldAddr Tf25_2 rfl) ?_
      refine LW.pureYB rfl rfl rfl rfl hq2 (RV.load1 Tk23 rfl ((H.blk 0 rfl).cells.off 2) rfl) ?_
      refine LW.yesB rfl rfl rfl rfl hq2 (OW.call Tc33 rfl (ref07_SameTables_ok (a0 := a0.cost) (a1 := a1.cost) (h_a0_cost.ext R0) (h_a1_cost.ext R0) hr3) ?_)
      rintro _ w5 ⟨rfl, E3⟩
      refine ⟨_, rfl, ?_⟩
      replace H := H.grow E3
      replace R0 := H.ext
      refine LW.pure rfl rfl (RV.pickTB rfl hq2 rfl) ?_
      refine LW.pure rfl rfl (RV.assign rfl) ?_
      refine LW.nil (hK2 _ _ ?_)
      refine CW.ret ?_
      obtain rfl := Option.some.inj F
      refine ⟨_, (ResOK.one rfl), ?_⟩
      refine ⟨(by first | rfl | simp), R0⟩
    ·
      replace F := ite_n hp2 F
      have hq2 : r2 = false := raw_f hp2
      refine CW.region ?_
      refine LW.pure rfl rfl (RV.fieldAddr Tf25_0 rfl) ?_
      refine LW.pure rfl rfl (RV.load1 Tk22 rfl ((H.blk 1 rfl).cells.off 0) rfl) ?_
      refine LW.pure rfl rfl (RV.fieldAddr Tf25_0 rfl) ?_
      refine LW.pure rfl rfl (RV.load1 Tk22 rfl ((H.blk 0 rfl).cells.off 0) rfl) ?_
      refine LW.go rfl rfl (OW.call Tc67 rfl (ref07_SameInts_ok (a0 := a0.supply) (a1 := a1.supply) (h_a0_supply.ext R0) (h_a1_supply.ext R0) hr1) ?_)
      rintro _ w6 ⟨rfl, E4⟩
      refine ⟨_, rfl, ?_⟩
      replace H := H.grow E4
      replace R0 := H.ext
      refine LW.pure rfl rfl (RV.move rfl) ?_
      refine LW.pureYB rfl rfl rfl rfl hq1 (RV.fieldAddr Tf25_1 rfl) ?_
      refine LW.pureYB rfl rfl rfl rfl hq1 (RV.load1 Tk22 rfl ((H.blk 1 rfl).cells.off 1) rfl) ?_
      refine LW.pureYB rfl rfl rfl rfl hq1 (RV.fieldAddr Tf25_1 rfl) ?_
      refine LW.pureYB rfl rfl rfl rfl hq1 (RV.load1 Tk22 rfl ((H.blk 0 rfl).cells.off 1) rfl) ?_
      refine LW.yesB rfl rfl rfl rfl hq1 (OW.call Tc67 rfl (ref07_SameInts_ok (a0 := a0.demand) (a1 := a1.demand) (h_a0_demand.ext R0) (h_a1_demand.ext R0) hr2) ?_)
      rintro _ w7 ⟨rfl, E5⟩
      refine ⟨_, rfl, ?_⟩
      replace H := H.grow E5
      replace R0 := H.ext
      refine LW.pure rfl rfl (RV.pickTB rfl hq1 rfl) ?_
      refine LW.pure rfl rfl (RV.move rfl) ?_
      refine LW.noB rfl rfl rfl rfl (ne_beq (v := false) hq2 rfl) ?_
      refine LW.noB rfl rfl rfl rfl (ne_beq (v := false) hq2 rfl) ?_
      refine LW.noB rfl rfl rfl rfl (ne_beq (v := false) hq2 rfl) ?_
      refine LW.noB rfl rfl rfl rfl (ne_beq (v := false) hq2 rfl) ?_
      refine LW.noB rfl rfl rfl rfl (ne_beq (v := false) hq2 rfl) ?_
      refine LW.pure rfl rfl (RV.pickFB rfl hq2 rfl) ?_
      refine LW.pure rfl rfl (RV.assign rfl) ?_
      refine LW.nil (hK2 _ _ ?_)
      refine CW.ret ?_
      obtain rfl := Option.some.inj F
      refine ⟨_, (ResOK.one rfl), ?_⟩
      refine ⟨(by first | rfl | simp), R0⟩
  ·
    replace F := ite_n hp1 F
    have hq1 : r1 = false := raw_f hp1
    refine CW.region ?_
    refine LW.pure rfl rfl (RV.fieldAddr Tf25_0 rfl) ?_
    refine LW.pure rfl rfl (RV.load1 Tk22 rfl ((H.blk 1 rfl).cells.off 0) rfl) ?_
    refine LW.pure rfl rfl (RV.fieldAddr Tf25_0 rfl) ?_
    refine LW.pure rfl rfl (RV.load1 Tk22 rfl ((H.blk 0 rfl).cells.off 0) rfl) ?_
    refine LW.go rfl rfl (OW.call Tc67 rfl (ref07_SameInts_ok (a0 := a0.supply) (a1 := a1.supply) (h_a0_supply.ext R0) (h_a1_supply.ext R0) hr1) ?_)
    rintro _ w8 ⟨rfl, E6⟩
    refine ⟨_, rfl, ?_⟩
    replace H := H.grow E6
    replace R0 := H.ext
    refine LW.pure rfl rfl (RV.move rfl) ?_
    refine LW.noB rfl rfl rfl rfl (ne_beq (v := false) hq1 rfl) ?_
    refine LW.noB rfl rfl rfl rfl (ne_beq (v := false) hq1 rfl) ?_
    refine LW.noB rfl rfl rfl rfl (ne_beq (v := false) hq1 rfl) ?_
    refine LW.noB rfl rfl rfl rfl (ne_beq (v := false) hq1 rfl) ?_
    refine LW.noB rfl rfl rfl rfl (ne_beq (v := false) hq1 rfl) ?_
    refine LW.pure rfl rfl (RV.pickFB rfl hq1 rfl) ?_
    refine LW.pure rfl rfl (RV.move rfl) ?_
    refine LW.noB rfl rfl rfl rfl (ne_beq (v := false) rfl rfl) ?_
    refine LW.noB rfl rfl rfl rfl (ne_beq (v := false) rfl rfl) ?_
    refine LW.noB rfl rfl rfl rfl (ne_beq (v := false) rfl rfl) ?_
    refine LW.noB rfl rfl rfl rfl (ne_beq (v := false) rfl rfl) ?_
    refine LW.noB rfl rfl rfl rfl (ne_beq (v := false) rfl rfl) ?_
    refine LW.pure rfl rfl (RV.pickFB rfl rfl rfl) ?_
    refine LW.pure rfl rfl (RV.assign rfl) ?_
    refine LW.nil (hK2 _ _ ?_)
    refine CW.ret ?_
    obtain rfl := Option.some.inj F
    refine ⟨_, (ResOK.one rfl), ?_⟩
    refine ⟨(by first | rfl | simp), R0⟩
end Go.D7

set_option linter.unusedVariables false
set_option linter.unusedSimpArgs false
namespace Go.D7
open Go.Tb Go.Proofs Go.RowKit
theorem Tc82 : callable Try.prog 82 = true := by kernel_rfl
set_option maxRecDepth 20000 in
set_option maxHeartbeats 1000000 in
theorem slices_EqualFunc_int_int_int_int_ok {a0 : List (List Int)} {a1 : List (List Int)} {A_a0 : Option Addr} {c_a0 : Nat} {A_a1 : Option Addr} {c_a1 : Nat} {w : World} {res : Bool} (h_a0 : Sl2 w A_a0 c_a0 1 encN a0) (h_a1 : Sl2 w A_a1 c_a1 1 encN a1) (F : slices_EqualFunc_int_int_int_int a0 a1 = some res) : Calls Try.prog 82 #[.slice A_a0 a0.length c_a0, .slice A_a1 a1.length c_a1, .func (.func 72) #[] #[]] w (Rt w (.bool res)) := by
  refine calls_of_cw (args := [.slice A_a0 a0.length c_a0, .slice A_a1 a1.length c_a1, .func (.func 72) #[] #[]]) Try.func82 rfl rfl rfl rfl ?_
  have H := Hp.start w
  have R0 := H.ext
  unfold slices_EqualFunc_int_int_int_int at F
  refine CW.seq fun K1 hK1 => ?_
  refine CW.region ?_
  refine LW.pure rfl rfl (RV.assign rfl) ?_
  refine LW.nil (hK1 _ _ ?_)
  refine CW.seq fun K2 hK2 => ?_
  refine CW.seq fun K3 hK3 => ?_
  refine CW.region ?_
  refine LW.pure rfl rfl (RV.move rfl) ?_
  refine LW.pure rfl rfl (RV.len Ts23 rfl) ?_
  refine LW.pure rfl rfl (RV.move rfl) ?_
  refine LW.pure rfl rfl (RV.len Ts23 rfl) ?_
  refine LW.pure rfl rfl (RV.nei rfl rfl) ?_
  refine LW.nil (hK3 _ _ ?_)
  by_cases hp1 : ((a0.length : Int)) = ((a1.length : Int))
  ·
    replace F := ite_y hp1 F
    have hq1 := dec_t hp1
    refine CW.condF rfl (not_f hq1) ?_
    refine CW.skip (hK2 _ _ ?_)
    refine CW.seqJ (fun ρ wl1 => (slices_EqualFunc_int_int_int_int_k1 = some res ∧ ρ = [(6, .bool false)] ∧ Hp w wl1 [])) ?_ ?_
    ·
      rintro _ wl1 ⟨F, rfl, H⟩
      have R0 := H.ext
      unfold slices_EqualFunc_int_int_int_int_k1 at F
      refine CW.seq fun K4 hK4 => ?_
      refine CW.region ?_
      refine LW.pure rfl rfl (RV.assign rfl) ?_
      refine LW.nil (hK4 _ _ ?_)
      refine CW.ret ?_
      obtain rfl := Option.some.inj F
      refine ⟨_, (ResOK.one rfl), ?_⟩
      refine ⟨(by first | rfl | simp), R0⟩
    ·
      intro K5 hK5 jK77
      refine CW.seq fun K6 hK6 => ?_
      refine CW.region ?_
      refine LW.pure rfl rfl (RV.move rfl) ?_
      refine LW.pure rfl rfl (RV.len Ts23 rfl) ?_
      refine LW.pure rfl rfl (RV.move rfl) ?_
      refine LW.nil (hK6 _ _ ?_)
      refine CW.block ?_
      refine CW.loop (fun meas ρ wl2 => ∃ (t17_1 : Int), slices_EqualFunc_int_int_int_int_L1 a0 a1 meas t17_1 = some res ∧ ρ = [(1, .slice A_a1 a1.length c_a1), (2, .func (.func 72) #[] #[]), (6, .bool false), (15, .slice A_a0 a0.length c_a0), (16, .int .i64 ((a0.length : Int))), (17, .int .i64 t17_1)] ∧ Hp w wl2 []) FU ⟨_, ?_, ((0 : Int)), F, rfl, H⟩ ?_
      · exact ⟨rfl, rfl, rfl, rfl, rfl, rfl, trivial⟩
      rintro mk1 _ wl2 ⟨t17_1, F, rfl, H⟩
      have R0 := H.ext
      replace F := slices_EqualFunc_int_int_int_int_L1_s F
      obtain ⟨mk1, rfl, F⟩ := F
      generalize hrec1 : slices_EqualFunc_int_int_int_int_L1 a0 a1 mk1 = rec1 at F
      unfold slices_EqualFunc_int_int_int_int_B1 at F
      refine CW.seq fun K7 hK7 => ?_
      refine CW.region ?_
      refine LW.pure rfl rfl (RV.lss rfl rfl) ?_
      refine LW.nil (hK7 _ _ ?_)
      refine CW.seq fun K8 hK8 => ?_
      by_cases hp2 : t17_1 < ((a0.length : Int))
      ·
        replace F := ite_y hp2 F
        have hq2 := dec_t hp2
        refine CW.condT rfl hq2 ?_
        refine CW.skip (hK8 _ _ ?_)
        refine CW.seq fun K9 hK9 => ?_
        refine CW.block ?_
        refine CW.seq fun K10 hK10 => ?_
        obtain ⟨x1, hbx1, hx1, F⟩ := ix_some F
        refine CW.region ?_
        refine LW.pure rfl rfl (RV.move rfl) ?_
        obtain ⟨A1, c1, hC1, hS1⟩ := h_a0.at_ hx1
        refine LW.pure rfl rfl (RV.indexAddr Ts23 rfl rfl hbx1 (h_a0.addr hbx1)) ?_
        refine LW.pure rfl rfl (RV.load1 Tk22 rfl (hC1.ext R0) rfl) ?_
        refine LW.pure rfl rfl (RV.assign rfl) ?_
        refine LW.pure rfl rfl (RV.assign rfl) ?_
        refine LW.nil (hK10 _ _ ?_)
        refine CW.seq fun K11 hK11 => ?_
        obtain ⟨x2, hbx2, hx2, F⟩ := ix_some F
        refine CW.region ?_
        refine LW.pure rfl rfl (RV.move rfl) ?_
        refine LW.pure rfl rfl (RV.move rfl) ?_
        obtain ⟨A2, c2, hC2, hS2⟩ := h_a1.at_ hx2
        refine LW.pure rfl rfl (RV.indexAddr Ts23 rfl rfl hbx2 (h_a1.addr hbx2)) ?_
        refine LW.pure rfl rfl (RV.load1 Tk22 rfl (hC2.ext R0) rfl) ?_
        refine LW.pure rfl rfl (RV.assign rfl) ?_
        refine LW.nil (hK11 _ _ ?_)
        refine CW.seq fun K12 hK12 => ?_
        obtain ⟨r1, hr1, F⟩ := bnd_some F
        refine CW.region ?_
        refine LW.pure rfl rfl (RV.move rfl) ?_
        refine LW.pure rfl rfl (RV.move rfl) ?_
        refine LW.pure rfl rfl (RV.move rfl) ?_
        refine LW.go rfl rfl (OW.callV rfl Tc72 rfl (slices_Equal_int_ok (a0 := x1) (a1 := x2) (hS1.ext R0) (hS2.ext R0) hr1) ?_)
        rintro _ w1 ⟨rfl, E1⟩
        refine ⟨_, rfl, ?_⟩
        replace H := H.grow E1
        replace R0 := H.ext
        refine LW.pure rfl rfl (RV.not rfl) ?_
        refine LW.nil (hK12 _ _ ?_)
        by_cases hp3 : r1 = true
        ·
          replace F := ite_y hp3 F
          have hq3 : r1 = true := hp3
          refine CW.condF rfl (not_f hq3) ?_
          refine CW.skip (hK9 _ _ ?_)
          obtain ⟨hg1, F⟩ := gd_some F
          refine CW.region ?_
          refine LW.pure rfl rfl (RV.add rfl rfl hg1) ?_
          refine LW.pure rfl rfl (RV.move rfl) ?_
          refine LW.nil ?_
          subst hrec1
          refine ⟨mk1, Nat.lt_succ_self _, _, ?_, (t17_1 + 1), F, rfl, H⟩
          exact ⟨rfl, rfl, rfl, rfl, rfl, rfl, trivial⟩
        ·
          replace F := ite_n hp3 F
          have hq3 : r1 = false := raw_f hp3
          refine CW.condT rfl (not_t hq3) ?_
          refine CW.seq fun K13 hK13 => ?_
          refine CW.region ?_
          refine LW.pure rfl rfl (RV.assign rfl) ?_
          refine LW.nil (hK13 _ _ ?_)
          refine CW.ret ?_
          obtain rfl := Option.some.inj F
          refine ⟨_, (ResOK.one rfl), ?_⟩
          refine ⟨(by first | rfl | simp), R0⟩
      ·
        replace F := ite_n hp2 F
        have hq2 := dec_f hp2
        refine CW.condF rfl hq2 ?_
        refine CW.exit (jK77 _ _ ⟨_, ?_, ⟨F, rfl, H⟩⟩)
        exact ⟨rfl, trivial⟩
  ·
    replace F := ite_n hp1 F
    have hq1 := dec_f hp1
    refine CW.condT rfl (not_t hq1) ?_
    refine CW.seq fun K14 hK14 => ?_
    refine CW.region ?_
    refine LW.pure rfl rfl (RV.assign rfl) ?_
    refine LW.nil (hK14 _ _ ?_)
    refine CW.ret ?_
    obtain rfl := Option.some.inj F
    refine ⟨_, (ResOK.one rfl), ?_⟩
    refine ⟨(by first | rfl | simp), R0⟩
set_option maxRecDepth 20000 in
set_option maxHeartbeats 1000000 in
theorem bulk_Add_ok {a0 : Trade} {a1 : Trade} {A_a0_supply : Option Addr} {c_a0_supply : Nat} {A_a0_demand : Option Addr} {c_a0_demand : Nat} {A_a0_cost : Option Addr} {c_a0_cost : Nat} {A_a1_supply : Option Addr} {c_a1_supply : Nat} {A_a1_demand : Option Addr} {c_a1_demand : Nat} {A_a1_cost : Option Addr} {c_a1_cost : Nat} {w : World} {res : Trade × Int} (h_a0_supply : Sl w A_a0_supply c_a0_supply 1 (a0.supply.map encN)) (h_a0_demand : Sl w A_a0_demand c_a0_demand 1 (a0.demand.map encN)) (h_a0_cost : Sl2 w A_a0_cost c_a0_cost 1 encN a0.cost) (h_a1_supply : Sl w A_a1_supply c_a1_supply 1 (a1.supply.map encN)) (h_a1_demand : Sl w A_a1_demand c_a1_demand 1 (a1.demand.map encN)) (h_a1_cost : Sl2 w A_a1_cost c_a1_cost 1 encN a1.cost) (F : bulk_Add a0 a1 = some res) : Calls Try.prog 45 #[.agg #[.slice A_a0_supply a0.supply.length c_a0_supply, .slice A_a0_demand a0.demand.length c_a0_demand, .slice A_a0_cost a0.cost.length c_a0_cost], .agg #[.slice A_a1_supply a1.supply.length c_a1_supply, .slice A_a1_demand a1.demand.length c_a1_demand, .slice A_a1_cost a1.cost.length c_a1_cost]] w (fun e w' => ∃ (A0_supply : Option Addr) (c0_supply : Nat) (A0_demand : Option Addr) (c0_demand : Nat) (A0_cost : Option Addr) (c0_cost : Nat) (hs0_cost : List (Option Addr × Nat)), e = .returned (.tuple #[.agg #[.slice A0_supply res.1.supply.length c0_supply, .slice A0_demand res.1.demand.length c0_demand, .slice A0_cost res.1.cost.length c0_cost], .int .i64 res.2]) ∧ Hp w w' [.own A0_supply c0_supply 3 1 (List.map encN res.1.supply), .own A0_demand c0_demand 3 1 (List.map encN res.1.demand), .tab A0_cost c0_cost 22 hs0_cost 3 1 (encM encN res.1.cost)]) := by
  refine calls_of_cw (args := [.agg #[.slice A_a0_supply a0.supply.length c_a0_supply, .slice A_a0_demand a0.demand.length c_a0_demand, .slice A_a0_cost a0.cost.length c_a0_cost], .agg #[.slice A_a1_supply a1.supply.length c_a1_supply, .slice A_a1_demand a1.demand.length c_a1_demand, .slice A_a1_cost a1.cost.length c_a1_cost]]) Try.func45 rfl rfl rfl rfl ?_
  have H := Hp.start w
  have R0 := H.ext
  unfold bulk_Add at F
  refine CW.seq fun K1 hK1 => ?_
  refine CW.region ?_
  refine LW.go rfl rfl (OW.box rfl fun b1 w1 N1 => ?_)
  replace H := H.new N1 N1.blk
  replace R0 := H.ext
  refine LW.go rfl rfl (OW.box rfl fun b2 w2 N2 => ?_)
  replace H := H.new N2 N2.blk
  replace R0 := H.ext
  refine LW.go rfl rfl (OW.alloc Tz25 fun b3 w3 N3 => ?_)
  replace H := H.new N3 N3.blk
  replace R0 := H.ext
  refine LW.pure rfl rfl (RV.assign rfl) ?_
  refine LW.nil (hK1 _ _ ?_)
  refine CW.seq fun K2 hK2 => ?_
  refine CW.seq fun K3 hK3 => ?_
  obtain ⟨r4, hr4, F⟩ := bnd_some F
  refine CW.region ?_
  refine LW.pure rfl rfl (RV.loadA [.slice A_a0_supply a0.supply.length c_a0_supply, .slice A_a0_demand a0.demand.length c_a0_demand, .slice A_a0_cost a0.cost.length c_a0_cost] Tk25 rfl (H.blk 2 rfl).cells rfl rfl) ?_
  refine LW.go rfl rfl (OW.call Tc38 rfl (bulk_Validate_ok (a0 := a0) (h_a0_supply.ext R0) (h_a0_demand.ext R0) (h_a0_cost.ext R0) hr4) ?_)
  rintro _ w4 ⟨rfl, E1⟩
  refine ⟨_, rfl, ?_⟩
  replace H := H.grow E1
  replace R0 := H.ext
  refine LW.pure rfl rfl (RV.assign rfl) ?_
  refine LW.nil (hK3 _ _ ?_)
  refine CW.seq fun K4 hK4 => ?_
  refine CW.region ?_
  refine LW.pure rfl rfl (RV.move rfl) ?_
  refine LW.pure rfl rfl (RV.nei rfl rfl) ?_
  refine LW.nil (hK4 _ _ ?_)
  by_cases hp1 : r4 = 0
  ·
    replace F := ite_y hp1 F
    have hq1 := dec_t hp1
    refine CW.condF rfl (not_f hq1) ?_
    refine CW.skip (hK2 _ _ ?_)
    refine CW.seq fun K5 hK5 => ?_
    refine CW.seq fun K6 hK6 => ?_
    obtain ⟨r5, hr5, F⟩ := bnd_some F
    refine CW.region ?_
    refine LW.pure rfl rfl (RV.loadA [.slice A_a1_supply a1.supply.length c_a1_supply, .slice A_a1_demand a1.demand.length c_a1_demand, .slice A_a1_cost a1.cost.length c_a1_cost] Tk25 rfl (H.blk 1 rfl).cells rfl rfl) ?_
    refine LW.go rfl rfl (OW.call Tc38 rfl (bulk_Validate_ok (a0 := a1) (h_a1_supply.ext R0) (h_a1_demand.ext R0) (h_a1_cost.ext R0) hr5) ?_)
    rintro _ w5 ⟨rfl, E2⟩
    refine ⟨_, rfl, ?_⟩
    replace H := H.grow E2
    replace R0 := H.ext
    refine LW.pure rfl rfl (RV.assign rfl) ?_
    refine LW.nil (hK6 _ _ ?_)
    refine CW.seq fun K7 hK7 => ?_
    refine CW.region ?_
    refine LW.pure rfl rfl (RV.move rfl) ?_
    refine LW.pure rfl rfl (RV.nei rfl rfl) ?_
    refine LW.nil (hK7 _ _ ?_)
    by_cases hp2 : r5 = 0
    ·
      replace F := ite_y hp2 F
      have hq2 := dec_t hp2
      refine CW.condF rfl (not_f hq2) ?_
      refine CW.skip (hK5 _ _ ?_)
      refine CW.seq fun K8 hK8 => ?_
      refine CW.seqJ (fun ρ wl1 => (∃ (t48_1 : Bool), bulk_Add_k4 a0 a1 t48_1 = some res ∧ ρ = [(2, .pointer (some (⟨b1, 0, none⟩))), (3, .pointer (some (⟨b2, 0, none⟩))), (4, .pointer (some (⟨b3, 0, none⟩))), (5, .int .i64 0), (48, .bool t48_1)] ∧ Hp w wl1 [.blk b1 25 [.slice A_a0_supply a0.supply.length c_a0_supply, .slice A_a0_demand a0.demand.length c_a0_demand, .slice A_a0_cost a0.cost.length c_a0_cost], .blk b2 25 [.slice A_a1_supply a1.supply.length c_a1_supply, .slice A_a1_demand a1.demand.length c_a1_demand, .slice A_a1_cost a1.cost.length c_a1_cost], .blk b3 25 [.slice none 0 0, .slice none 0 0, .slice none 0 0]])) ?_ ?_
      ·
        rintro _ wl1 ⟨t48_1, F, rfl, H⟩
        have R0 := H.ext
        unfold bulk_Add_k4 at F
        by_cases hp3 : t48_1 = true
        ·
          replace F := ite_y hp3 F
          have hq3 : t48_1 = true := hp3
          refine CW.condT rfl hq3 ?_
          refine CW.seq fun K9 hK9 => ?_
          refine CW.region ?_
          refine LW.pure rfl rfl (RV.build (vs := []) (cs := [.slice none 0 0, .slice none 0 0, .slice none 0 0]) rfl (fun _ => by kernel_rfl)) ?_
          refine LW.go rfl rfl (OW.store Tk25 rfl rfl (H.blk 2 rfl) (off := 0) (vs := [.slice none 0 0, .slice none 0 0, .slice none 0 0]) rfl rfl rfl rfl rfl fun w6 S1 => ?_)
          replace H : Hp w w6 [.blk b1 25 [.slice A_a0_supply a0.supply.length c_a0_supply, .slice A_a0_demand a0.demand.length c_a0_demand, .slice A_a0_cost a0.cost.length c_a0_cost], .blk b2 25 [.slice A_a1_supply a1.supply.length c_a1_supply, .slice A_a1_demand a1.demand.length c_a1_demand, .slice A_a1_cost a1.cost.length c_a1_cost], .blk b3 25 [.slice none 0 0, .slice none 0 0, .slice none 0 0]] := H.stored 2 rfl S1
          replace R0 := H.ext
          refine LW.pure rfl rfl (RV.assign rfl) ?_
          refine LW.nil (hK9 _ _ ?_)
          refine CW.ret ?_
          obtain rfl := Option.some.inj F
          refine ⟨_, (ResOK.two ⟨_, rfl, run_loadVar_agg Tk25 (H.blk 2 rfl).cells (us := [.slice none 0 0, .slice none 0 0, .slice none 0 0]) rfl rfl⟩ rfl), ?_⟩
          replace H := H.nilOwn 3 1
          replace R0 := H.ext
          replace H := H.nilOwn 3 1
          replace R0 := H.ext
          replace H := H.nilTab encN 22 3 1
          replace R0 := H.ext
          replace H := H.pick (L' := [.own none 0 3 1 (List.map encN (([] : List Int))), .own none 0 3 1 (List.map encN (([] : List Int))), .tab none 0 22 ([]) 3 1 (encM encN (([] : List (List Int))))]) [2, 1, 0] (by decide) rfl
          replace R0 := H.ext
          exact ⟨none, 0, none, 0, none, 0, ([]), (by first | rfl | (simp; done) | (simp; omega)), H⟩
        ·
          replace F := ite_n hp3 F
          have hq3 : t48_1 = false := raw_f hp3
          refine CW.condF rfl hq3 ?_
          refine CW.skip (hK8 _ _ ?_)
          refine CW.seq fun K10 hK10 => ?_
          obtain ⟨r1, hr1, F⟩ := bnd_some F
          refine CW.region ?_
          refine LW.pure rfl rfl (RV.loadA [.slice A_a0_supply a0.supply.length c_a0_supply, .slice A_a0_demand a0.demand.length c_a0_demand, .slice A_a0_cost a0.cost.length c_a0_cost] Tk25 rfl (H.blk 0 rfl).cells rfl rfl) ?_
          refine LW.go rfl rfl (OW.call Tc65 rfl (bulk_copied_ok (a0 := a0) (h_a0_supply.ext R0) (h_a0_demand.ext R0) (h_a0_cost.ext R0) hr1) ?_)
          rintro _ w7 ⟨A16_0_supply, c16_0_supply, A16_0_demand, c16_0_demand, A16_0_cost, c16_0_cost, hs16_0_cost, rfl, E3⟩
          refine ⟨_, rfl, ?_⟩
          replace H : Hp w w7 [.own A16_0_supply c16_0_supply 3 1 (List.map encN r1.supply), .own A16_0_demand c16_0_demand 3 1 (List.map encN r1.demand), .tab A16_0_cost c16_0_cost 22 hs16_0_cost 3 1 (encM encN r1.cost), .blk b1 25 [.slice A_a0_supply a0.supply.length c_a0_supply, .slice A_a0_demand a0.demand.length c_a0_demand, .slice A_a0_cost a0.cost.length c_a0_cost], .blk b2 25 [.slice A_a1_supply a1.supply.length c_a1_supply, .slice A_a1_demand a1.demand.length c_a1_demand, .slice A_a1_cost a1.cost.length c_a1_cost], .blk b3 25 [.slice none 0 0, .slice none 0 0, .slice none 0 0]] := H.append E3
          replace R0 := H.ext
          refine LW.go rfl rfl (OW.alloc Tz25 fun b4 w8 N4 => ?_)
          replace H := H.new N4 N4.blk
          replace R0 := H.ext
          refine LW.go rfl rfl (OW.store Tk25 rfl rfl (H.blk 0 rfl) (off := 0) (vs := [.slice A16_0_supply r1.supply.length c16_0_supply, .slice A16_0_demand r1.demand.length c16_0_demand, .slice A16_0_cost r1.cost.length c16_0_cost]) rfl rfl rfl rfl rfl fun w9 S2 => ?_)
          replace H : Hp w w9 [.blk b4 25 [.slice A16_0_supply r1.supply.length c16_0_supply, .slice A16_0_demand r1.demand.length c16_0_demand, .slice A16_0_cost r1.cost.length c16_0_cost], .own A16_0_supply c16_0_supply 3 1 (List.map encN r1.supply), .own A16_0_demand c16_0_demand 3 1 (List.map encN r1.demand), .tab A16_0_cost c16_0_cost 22 hs16_0_cost 3 1 (encM encN r1.cost), .blk b1 25 [.slice A_a0_supply a0.supply.length c_a0_supply, .slice A_a0_demand a0.demand.length c_a0_demand, .slice A_a0_cost a0.cost.length c_a0_cost], .blk b2 25 [.slice A_a1_supply a1.supply.length c_a1_supply, .slice A_a1_demand a1.demand.length c_a1_demand, .slice A_a1_cost a1.cost.length c_a1_cost], .blk b3 25 [.slice none 0 0, .slice none 0 0, .slice none 0 0]] := H.stored 0 rfl S2
          replace R0 := H.ext
          refine LW.nil (hK10 _ _ ?_)
          refine CW.seqJ (fun ρ wl2 => (∃ (l1 : List Int), bulk_Add_k3 a1 r1 l1 = some res ∧ ρ = [(3, .pointer (some (⟨b2, 0, none⟩))), (4, .pointer (some (⟨b3, 0, none⟩))), (5, .int .i64 0), (8, .pointer (some (⟨b4, 0, none⟩)))] ∧ Hp w wl2 [.own A16_0_supply c16_0_supply 3 1 (List.map encN l1), .own A16_0_demand c16_0_demand 3 1 (List.map encN r1.demand), .tab A16_0_cost c16_0_cost 22 hs16_0_cost 3 1 (encM encN r1.cost), .blk b2 25 [.slice A_a1_supply a1.supply.length c_a1_supply, .slice A_a1_demand a1.demand.length c_a1_demand, .slice A_a1_cost a1.cost.length c_a1_cost], .blk b3 25 [.slice none 0 0, .slice none 0 0, .slice none 0 0], .blk b4 25 [.slice A16_0_supply l1.length c16_0_supply, .slice A16_0_demand r1.demand.length c16_0_demand, .slice A16_0_cost r1.cost.length c16_0_cost]])) ?_ ?_
          ·
            rintro _ wl2 ⟨l1, F, rfl, H⟩
            have R0 := H.ext
            unfold bulk_Add_k3 at F
            refine CW.seqJ (fun ρ wl3 => (∃ (l2 : List Int), bulk_Add_k2 r1 l1 l2 = some res ∧ ρ = [(4, .pointer (some (⟨b3, 0, none⟩))), (5, .int .i64 0), (8, .pointer (some (⟨b4, 0, none⟩)))] ∧ Hp w wl3 [.own A16_0_supply c16_0_supply 3 1 (List.map encN l1), .own A16_0_demand c16_0_demand 3 1 (List.map encN l2), .tab A16_0_cost c16_0_cost 22 hs16_0_cost 3 1 (encM encN r1.cost), .blk b3 25 [.slice none 0 0, .slice none 0 0, .slice none 0 0], .blk b4 25 [.slice A16_0_supply l1.length c16_0_supply, .slice A16_0_demand l2.length c16_0_demand, .slice A16_0_cost r1.cost.length c16_0_cost]])) ?_ ?_
            ·
              rintro _ wl3 ⟨l2, F, rfl, H⟩
              have R0 := H.ext
              unfold bulk_Add_k2 at F
              refine CW.seq fun K11 hK11 => ?_
              refine CW.seqJ (fun ρ wl4 => (∃ (t95_1 : Bool), bulk_Add_k1 r1 l1 l2 t95_1 = some res ∧ ρ = [(4, .pointer (some (⟨b3, 0, none⟩))), (5, .int .i64 0), (8, .pointer (some (⟨b4, 0, none⟩))), (95, .bool t95_1)] ∧ Hp w wl4 [.own A16_0_supply c16_0_supply 3 1 (List.map encN l1), .own A16_0_demand c16_0_demand 3 1 (List.map encN l2), .tab A16_0_cost c16_0_cost 22 hs16_0_cost 3 1 (encM encN r1.cost), .blk b3 25 [.slice none 0 0, .slice none 0 0, .slice none 0 0], .blk b4 25 [.slice A16_0_supply l1.length c16_0_supply, .slice A16_0_demand l2.length c16_0_demand, .slice A16_0_cost r1.cost.length c16_0_cost]])) ?_ ?_
              ·
                rintro _ wl4 ⟨t95_1, F, rfl, H⟩
                have R0 := H.ext
                unfold bulk_Add_k1 at F
                by_cases hp4 : t95_1 = true
                ·
                  replace F := ite_y hp4 F
                  have hq4 : t95_1 = true := hp4
                  refine CW.condT rfl hq4 ?_
                  refine CW.seq fun K12 hK12 => ?_
                  refine CW.region ?_
                  refine LW.pure rfl rfl (RV.build (vs := []) (cs := [.slice none 0 0, .slice none 0 0, .slice none 0 0]) rfl (fun _ => by kernel_rfl)) ?_
                  refine LW.go rfl rfl (OW.store Tk25 rfl rfl (H.blk 3 rfl) (off := 0) (vs := [.slice none 0 0, .slice none 0 0, .slice none 0 0]) rfl rfl rfl rfl rfl fun w10 S3 => ?_)
                  replace H : Hp w w10 [.own A16_0_supply c16_0_supply 3 1 (List.map encN l1), .own A16_0_demand c16_0_demand 3 1 (List.map encN l2), .tab A16_0_cost c16_0_cost 22 hs16_0_cost 3 1 (encM encN r1.cost), .blk b3 25 [.slice none 0 0, .slice none 0 0, .slice none 0 0], .blk b4 25 [.slice A16_0_supply l1.length c16_0_supply, .slice A16_0_demand l2.length c16_0_demand, .slice A16_0_cost r1.cost.length c16_0_cost]] := H.stored 3 rfl S3
                  replace R0 := H.ext
                  refine LW.pure rfl rfl (RV.assign rfl) ?_
                  refine LW.nil (hK12 _ _ ?_)
                  refine CW.ret ?_
                  obtain rfl := Option.some.inj F
                  refine ⟨_, (ResOK.two ⟨_, rfl, run_loadVar_agg Tk25 (H.blk 3 rfl).cells (us := [.slice none 0 0, .slice none 0 0, .slice none 0 0]) rfl rfl⟩ rfl), ?_⟩
                  replace H := H.nilOwn 3 1
                  replace R0 := H.ext
                  replace H := H.nilOwn 3 1
                  replace R0 := H.ext
                  replace H := H.nilTab encN 22 3 1
                  replace R0 := H.ext
                  replace H := H.pick (L' := [.own none 0 3 1 (List.map encN (([] : List Int))), .own none 0 3 1 (List.map encN (([] : List Int))), .tab none 0 22 ([]) 3 1 (encM encN (([] : List (List Int))))]) [2, 1, 0] (by decide) rfl
                  replace R0 := H.ext
                  exact ⟨none, 0, none, 0, none, 0, ([]), (by first | rfl | (simp; done) | (simp; omega)), H⟩
                ·
                  replace F := ite_n hp4 F
                  have hq4 : t95_1 = false := raw_f hp4
                  refine CW.condF rfl hq4 ?_
                  refine CW.skip (hK11 _ _ ?_)
                  refine CW.seq fun K13 hK13 => ?_
                  refine CW.region ?_
                  refine LW.pure rfl rfl (RV.loadA [.slice A16_0_supply l1.length c16_0_supply, .slice A16_0_demand l2.length c16_0_demand, .slice A16_0_cost r1.cost.length c16_0_cost] Tk25 rfl (H.blk 4 rfl).cells rfl rfl) ?_
                  refine LW.go rfl rfl (OW.store Tk25 rfl rfl (H.blk 3 rfl) (off := 0) (vs := [.slice A16_0_supply l1.length c16_0_supply, .slice A16_0_demand l2.length c16_0_demand, .slice A16_0_cost r1.cost.length c16_0_cost]) rfl rfl rfl rfl rfl fun w11 S4 => ?_)
                  replace H : Hp w w11 [.own A16_0_supply c16_0_supply 3 1 (List.map encN l1), .own A16_0_demand c16_0_demand 3 1 (List.map encN l2), .tab A16_0_cost c16_0_cost 22 hs16_0_cost 3 1 (encM encN r1.cost), .blk b3 25 [.slice A16_0_supply l1.length c16_0_supply, .slice A16_0_demand l2.length c16_0_demand, .slice A16_0_cost r1.cost.length c16_0_cost], .blk b4 25 [.slice A16_0_supply l1.length c16_0_supply, .slice A16_0_demand l2.length c16_0_demand, .slice A16_0_cost r1.cost.length c16_0_cost]] := H.stored 3 rfl S4
                  replace R0 := H.ext
                  refine LW.pure rfl rfl (RV.assign rfl) ?_
                  refine LW.nil (hK13 _ _ ?_)
                  refine CW.ret ?_
                  obtain rfl := Option.some.inj F
                  refine ⟨_, (ResOK.two ⟨_, rfl, run_loadVar_agg Tk25 (H.blk 3 rfl).cells (us := [.slice A16_0_supply l1.length c16_0_supply, .slice A16_0_demand l2.length c16_0_demand, .slice A16_0_cost r1.cost.length c16_0_cost]) rfl rfl⟩ rfl), ?_⟩
                  replace H := H.pick (L' := [.own A16_0_supply c16_0_supply 3 1 (List.map encN l1), .own A16_0_demand c16_0_demand 3 1 (List.map encN l2), .tab A16_0_cost c16_0_cost 22 hs16_0_cost 3 1 (encM encN r1.cost)]) [0, 1, 2] (by decide) rfl
                  replace R0 := H.ext
                  exact ⟨A16_0_supply, c16_0_supply, A16_0_demand, c16_0_demand, A16_0_cost, c16_0_cost, hs16_0_cost, (by first | rfl | (simp; done) | (simp; omega)), H⟩
              ·
                intro K14 hK14 jK111
                obtain ⟨r2, hr2, F⟩ := bnd_some F
                by_cases hp5 : r2 = true
                ·
                  replace F := ite_y hp5 F
                  have hq5 : r2 = true := hp5
                  obtain ⟨r3, hr3, F⟩ := bnd_some F
                  refine CW.region ?_
                  refine LW.pure rfl rfl (RV.fieldAddr Tf25_0 rfl) ?_
                  refine LW.pure rfl rfl (RV.load1 Tk22 rfl ((H.blk 4 rfl).cells.off 0) rfl) ?_
                  refine LW.go rfl rfl (OW.call Tc75 rfl (bulk_amounts_ok (a0 := l1) (H.own 0 rfl).sl hr2) ?_)
                  rintro _ w12 ⟨rfl, E4⟩
                  refine ⟨_, rfl, ?_⟩
                  replace H := H.grow E4
                  replace R0 := H.ext
                  refine LW.pure rfl rfl (RV.not rfl) ?_
                  refine LW.pure rfl rfl (RV.move rfl) ?_
                  refine LW.pureYB rfl rfl rfl rfl (not_f hq5) (RV.fieldAddr Tf25_1 rfl) ?_
                  refine LW.pureYB rfl rfl rfl rfl (not_f hq5) (RV.load1 Tk22 rfl ((H.blk 4 rfl).cells.off 1) rfl) ?_
                  refine LW.yesB rfl rfl rfl rfl (not_f hq5) (OW.call Tc75 rfl (bulk_amounts_ok (a0 := l2) (H.own 1 rfl).sl hr3) ?_)
                  rintro _ w13 ⟨rfl, E5⟩
                  refine ⟨_, rfl, ?_⟩
                  replace H := H.grow E5
                  replace R0 := H.ext
                  refine LW.pureYB rfl rfl rfl rfl (not_f hq5) (RV.not rfl) ?_
                  refine LW.pure rfl rfl (RV.pickFB rfl (not_f hq5) rfl) ?_
                  refine LW.nil (jK111 _ _ ⟨_, ?_, ⟨(!r3), F, rfl, H⟩⟩)
                  exact ⟨rfl, rfl, rfl, rfl, trivial⟩
                ·
                  replace F := ite_n hp5 F
                  have hq5 : r2 = false := raw_f hp5
                  refine CW.region ?_
                  refine LW.pure rfl rfl (RV.fieldAddr Tf25_0 rfl) ?_
                  refine LW.pure rfl rfl (RV.load1 Tk22 rfl ((H.blk 4 rfl).cells.off 0) rfl) ?_
                  refine LW.go rfl rfl (OW.call Tc75 rfl (bulk_amounts_ok (a0 := l1) (H.own 0 rfl).sl hr2) ?_)
                  rintro _ w14 ⟨rfl, E6⟩
                  refine ⟨_, rfl, ?_⟩
                  replace H := H.grow E6
                  replace R0 := H.ext
                  refine LW.pure rfl rfl (RV.not rfl) ?_
                  refine LW.pure rfl rfl (RV.move rfl) ?_
                  refine LW.noB rfl rfl rfl rfl (ne_beq (v := true) (not_t hq5) rfl) ?_
                  refine LW.noB rfl rfl rfl rfl (ne_beq (v := true) (not_t hq5) rfl) ?_
                  refine LW.noB rfl rfl rfl rfl (ne_beq (v := true) (not_t hq5) rfl) ?_
                  refine LW.noB rfl rfl rfl rfl (ne_beq (v := true) (not_t hq5) rfl) ?_
                  refine LW.pure rfl rfl (RV.pickTB rfl (not_t hq5) rfl) ?_
                  refine LW.nil (jK111 _ _ ⟨_, ?_, ⟨true, F, rfl, H⟩⟩)
                  exact ⟨rfl, rfl, rfl, rfl, trivial⟩
            ·
              intro K15 hK15 jK112
              refine CW.seq fun K16 hK16 => ?_
              refine CW.region ?_
              refine LW.pure rfl rfl (RV.fieldAddr Tf25_1 rfl) ?_
              refine LW.pure rfl rfl (RV.load1 Tk22 rfl ((H.blk 3 rfl).cells.off 1) rfl) ?_
              refine LW.pure rfl rfl (RV.len Ts22 rfl) ?_
              refine LW.pure rfl rfl (RV.move rfl) ?_
              refine LW.nil (hK16 _ _ ?_)
              refine CW.block ?_
              replace H := H.pick (L' := [.own A16_0_supply c16_0_supply 3 1 (List.map encN l1), .own A16_0_demand c16_0_demand 3 1 (List.map encN r1.demand), .tab A16_0_cost c16_0_cost 22 hs16_0_cost 3 1 (encM encN r1.cost), .blk b3 25 [.slice none 0 0, .slice none 0 0, .slice none 0 0], .blk b4 25 [.slice A16_0_supply l1.length c16_0_supply, .slice A16_0_demand r1.demand.length c16_0_demand, .slice A16_0_cost r1.cost.length c16_0_cost]]) [0, 1, 2, 4, 5] (by decide) rfl
              replace R0 := H.ext
              refine CW.loop (fun meas ρ wl5 => ∃ (t72_1 : Int) (l3 : List Int), bulk_Add_L1 a1 r1 l1 meas t72_1 l3 = some res ∧ ρ = [(4, .pointer (some (⟨b3, 0, none⟩))), (5, .int .i64 0), (8, .pointer (some (⟨b4, 0, none⟩))), (70, .slice A_a1_demand a1.demand.length c_a1_demand), (71, .int .i64 ((a1.demand.length : Int))), (72, .int .i64 t72_1)] ∧ Hp w wl5 [.own A16_0_supply c16_0_supply 3 1 (List.map encN l1), .own A16_0_demand c16_0_demand 3 1 (List.map encN l3), .tab A16_0_cost c16_0_cost 22 hs16_0_cost 3 1 (encM encN r1.cost), .blk b3 25 [.slice none 0 0, .slice none 0 0, .slice none 0 0], .blk b4 25 [.slice A16_0_supply l1.length c16_0_supply, .slice A16_0_demand l3.length c16_0_demand, .slice A16_0_cost r1.cost.length c16_0_cost]]) FU ⟨_, ?_, ((0 : Int)), r1.demand, F, rfl, H⟩ ?_
              · exact ⟨rfl, rfl, rfl, rfl, rfl, rfl, trivial⟩
              rintro mk1 _ wl5 ⟨t72_1, l3, F, rfl, H⟩
              have R0 := H.ext
              replace F := bulk_Add_L1_s F
              obtain ⟨mk1, rfl, F⟩ := F
              generalize hrec1 : bulk_Add_L1 a1 r1 l1 mk1 = rec1 at F
              unfold bulk_Add_B1 at F
              refine CW.seq fun K17 hK17 => ?_
              refine CW.region ?_
              refine LW.pure rfl rfl (RV.lss rfl rfl) ?_
              refine LW.nil (hK17 _ _ ?_)
              refine CW.seq fun K18 hK18 => ?_
              by_cases hp6 : t72_1 < ((a1.demand.length : Int))
              ·
                replace F := ite_y hp6 F
                have hq6 := dec_t hp6
                refine CW.condT rfl hq6 ?_
                refine CW.skip (hK18 _ _ ?_)
                refine CW.seq fun K19 hK19 => ?_
                refine CW.block ?_
                refine CW.seq fun K20 hK20 => ?_
                obtain ⟨x1, hbx1, hx1, F⟩ := ix_some F
                refine CW.region ?_
                refine LW.pure rfl rfl (RV.move rfl) ?_
                refine LW.pure rfl rfl (RV.indexAddr Ts22 rfl rfl hbx1 (h_a1_demand.addr_ hx1)) ?_
                refine LW.pure rfl rfl (RV.load1 Tk3 rfl ((h_a1_demand.at_ hx1).ext R0) rfl) ?_
                refine LW.pure rfl rfl (RV.assign rfl) ?_
                refine LW.pure rfl rfl (RV.assign rfl) ?_
                refine LW.nil (hK20 _ _ ?_)
                obtain ⟨x2, hbx2, hx2, F⟩ := ix_some F
                obtain ⟨hg1, F⟩ := gd_some F
                obtain ⟨x3, hbx3, hx3, F⟩ := ix_some F
                refine CW.region ?_
                refine LW.pure rfl rfl (RV.fieldAddr Tf25_1 rfl) ?_
                refine LW.pure rfl rfl (RV.load1 Tk22 rfl ((H.blk 4 rfl).cells.off 1) rfl) ?_
                refine LW.pure rfl rfl (RV.move rfl) ?_
                refine LW.pure rfl rfl (RV.indexAddr Ts22 rfl rfl hbx2 ((H.own 1 rfl).sl.addr_ hx2)) ?_
                refine LW.pure rfl rfl (RV.load1 Tk3 rfl ((H.own 1 rfl).sl.at_ hx2) rfl) ?_
                refine LW.pure rfl rfl (RV.move rfl) ?_
                refine LW.pure rfl rfl (RV.add rfl rfl hg1) ?_
                refine LW.pure rfl rfl (RV.indexAddr Ts22 rfl rfl hbx3 ((H.own 1 rfl).sl.addr_ hx3)) ?_
                refine LW.go rfl rfl (OW.storeO (enc := encN) (vs := [.int .i64 (x2 + x1)]) 0 (x2 + x1) Tk3 rfl rfl (H.own 1 rfl) (fun _ => rfl) rfl hx3 rfl rfl (by decide) rfl rfl fun w15 M1 O1 => ?_)
                replace H : Hp w w15 [.own A16_0_supply c16_0_supply 3 1 (List.map encN l1), .own A16_0_demand c16_0_demand 3 1 (List.map encN ((l3.set (Int.toNat t72_1) (x2 + x1)))), .tab A16_0_cost c16_0_cost 22 hs16_0_cost 3 1 (encM encN r1.cost), .blk b3 25 [.slice none 0 0, .slice none 0 0, .slice none 0 0], .blk b4 25 [.slice A16_0_supply l1.length c16_0_supply, .slice A16_0_demand l3.length c16_0_demand, .slice A16_0_cost r1.cost.length c16_0_cost]] := H.mod 1 rfl M1 O1 (.inl rfl)
                replace R0 := H.ext
                refine LW.nil (hK19 _ _ ?_)
                obtain ⟨hg2, F⟩ := gd_some F
                refine CW.region ?_
                refine LW.pure rfl rfl (RV.add rfl rfl hg2) ?_
                refine LW.pure rfl rfl (RV.move rfl) ?_
                refine LW.nil ?_
                replace H := H.cast (L' := [.own A16_0_supply c16_0_supply 3 1 (List.map encN l1), .own A16_0_demand c16_0_demand 3 1 (List.map encN ((l3.set (Int.toNat t72_1) (x2 + x1)))), .tab A16_0_cost c16_0_cost 22 hs16_0_cost 3 1 (encM encN r1.cost), .blk b3 25 [.slice none 0 0, .slice none 0 0, .slice none 0 0], .blk b4 25 [.slice A16_0_supply l1.length c16_0_supply, .slice A16_0_demand (((l3.set (Int.toNat t72_1) (x2 + x1))).length) c16_0_demand, .slice A16_0_cost r1.cost.length c16_0_cost]]) (by first | rfl | (simp only [List.length_set]; done) | simp)
                subst hrec1
                refine ⟨mk1, Nat.lt_succ_self _, _, ?_, (t72_1 + 1), ((l3.set (Int.toNat t72_1) (x2 + x1))), F, rfl, H⟩
                exact ⟨rfl, rfl, rfl, rfl, rfl, rfl, trivial⟩
              ·
                replace F := ite_n hp6 F
                have hq6 := dec_f hp6
                refine CW.condF rfl hq6 ?_
                refine CW.exit (jK112 _ _ ⟨_, ?_, ⟨l3, F, rfl, H⟩⟩)
                exact ⟨rfl, rfl, rfl, trivial⟩
          ·
            intro K21 hK21 jK126
            refine CW.seq fun K22 hK22 => ?_
            refine CW.region ?_
            refine LW.pure rfl rfl (RV.fieldAddr Tf25_0 rfl) ?_
            refine LW.pure rfl rfl (RV.load1 Tk22 rfl ((H.blk 5 rfl).cells.off 0) rfl) ?_
            refine LW.pure rfl rfl (RV.len Ts22 rfl) ?_
            refine LW.pure rfl rfl (RV.move rfl) ?_
            refine LW.nil (hK22 _ _ ?_)
            refine CW.block ?_
            replace H := H.pick (L' := [.own A16_0_supply c16_0_supply 3 1 (List.map encN r1.supply), .own A16_0_demand c16_0_demand 3 1 (List.map encN r1.demand), .tab A16_0_cost c16_0_cost 22 hs16_0_cost 3 1 (encM encN r1.cost), .blk b2 25 [.slice A_a1_supply a1.supply.length c_a1_supply, .slice A_a1_demand a1.demand.length c_a1_demand, .slice A_a1_cost a1.cost.length c_a1_cost], .blk b3 25 [.slice none 0 0, .slice none 0 0, .slice none 0 0], .blk b4 25 [.slice A16_0_supply r1.supply.length c16_0_supply, .slice A16_0_demand r1.demand.length c16_0_demand, .slice A16_0_cost r1.cost.length c16_0_cost]]) [1, 2, 3, 5, 6, 0] (by decide) rfl
            replace R0 := H.ext
            refine CW.loop (fun meas ρ wl6 => ∃ (t55_1 : Int) (l4 : List Int), bulk_Add_L2 a1 r1 meas t55_1 l4 = some res ∧ ρ = [(3, .pointer (some (⟨b2, 0, none⟩))), (4, .pointer (some (⟨b3, 0, none⟩))), (5, .int .i64 0), (8, .pointer (some (⟨b4, 0, none⟩))), (53, .slice A_a1_supply a1.supply.length c_a1_supply), (54, .int .i64 ((a1.supply.length : Int))), (55, .int .i64 t55_1)] ∧ Hp w wl6 [.own A16_0_supply c16_0_supply 3 1 (List.map encN l4), .own A16_0_demand c16_0_demand 3 1 (List.map encN r1.demand), .tab A16_0_cost c16_0_cost 22 hs16_0_cost 3 1 (encM encN r1.cost), .blk b2 25 [.slice A_a1_supply a1.supply.length c_a1_supply, .slice A_a1_demand a1.demand.length c_a1_demand, .slice A_a1_cost a1.cost.length c_a1_cost], .blk b3 25 [.slice none 0 0, .slice none 0 0, .slice none 0 0], .blk b4 25 [.slice A16_0_supply l4.length c16_0_supply, .slice A16_0_demand r1.demand.length c16_0_demand, .slice A16_0_cost r1.cost.length c16_0_cost]]) FU ⟨_, ?_, ((0 : Int)), r1.supply, F, rfl, H⟩ ?_
            · exact ⟨rfl, rfl, rfl, rfl, rfl, rfl, rfl, trivial⟩
            rintro mk2 _ wl6 ⟨t55_1, l4, F, rfl, H⟩
            have R0 := H.ext
            replace F := bulk_Add_L2_s F
            obtain ⟨mk2, rfl, F⟩ := F
            generalize hrec2 : bulk_Add_L2 a1 r1 mk2 = rec2 at F
            unfold bulk_Add_B2 at F
            refine CW.seq fun K23 hK23 => ?_
            refine CW.region ?_
            refine LW.pure rfl rfl (RV.lss rfl rfl) ?_
            refine LW.nil (hK23 _ _ ?_)
            refine CW.seq fun K24 hK24 => ?_
            by_cases hp7 : t55_1 < ((a1.supply.length : Int))
            ·
              replace F := ite_y hp7 F
              have hq7 := dec_t hp7
              refine CW.condT rfl hq7 ?_
              refine CW.skip (hK24 _ _ ?_)
              refine CW.seq fun K25 hK25 => ?_
              refine CW.block ?_
              refine CW.seq fun K26 hK26 => ?_
              obtain ⟨x4, hbx4, hx4, F⟩ := ix_some F
              refine CW.region ?_
              refine LW.pure rfl rfl (RV.move rfl) ?_
              refine LW.pure rfl rfl (RV.indexAddr Ts22 rfl rfl hbx4 (h_a1_supply.addr_ hx4)) ?_
              refine LW.pure rfl rfl (RV.load1 Tk3 rfl ((h_a1_supply.at_ hx4).ext R0) rfl) ?_
              refine LW.pure rfl rfl (RV.assign rfl) ?_
              refine LW.pure rfl rfl (RV.assign rfl) ?_
              refine LW.nil (hK26 _ _ ?_)
              obtain ⟨x5, hbx5, hx5, F⟩ := ix_some F
              obtain ⟨hg3, F⟩ := gd_some F
              obtain ⟨x6, hbx6, hx6, F⟩ := ix_some F
              refine CW.region ?_
              refine LW.pure rfl rfl (RV.fieldAddr Tf25_0 rfl) ?_
              refine LW.pure rfl rfl (RV.load1 Tk22 rfl ((H.blk 5 rfl).cells.off 0) rfl) ?_
              refine LW.pure rfl rfl (RV.move rfl) ?_
              refine LW.pure rfl rfl (RV.indexAddr Ts22 rfl rfl hbx5 ((H.own 0 rfl).sl.addr_ hx5)) ?_
              refine LW.pure rfl rfl (RV.load1 Tk3 rfl ((H.own 0 rfl).sl.at_ hx5) rfl) ?_
              refine LW.pure rfl rfl (RV.move rfl) ?_
              refine LW.pure rfl rfl (RV.add rfl rfl hg3) ?_
              refine LW.pure rfl rfl (RV.indexAddr Ts22 rfl rfl hbx6 ((H.own 0 rfl).sl.addr_ hx6)) ?_
              refine LW.go rfl rfl (OW.storeO (enc := encN) (vs := [.int .i64 (x5 + x4)]) 0 (x5 + x4) Tk3 rfl rfl (H.own 0 rfl) (fun _ => rfl) rfl hx6 rfl rfl (by decide) rfl rfl fun w16 M2 O2 => ?_)
              replace H : Hp w w16 [.own A16_0_supply c16_0_supply 3 1 (List.map encN ((l4.set (Int.toNat t55_1) (x5 + x4)))), .own A16_0_demand c16_0_demand 3 1 (List.map encN r1.demand), .tab A16_0_cost c16_0_cost 22 hs16_0_cost 3 1 (encM encN r1.cost), .blk b2 25 [.slice A_a1_supply a1.supply.length c_a1_supply, .slice A_a1_demand a1.demand.length c_a1_demand, .slice A_a1_cost a1.cost.length c_a1_cost], .blk b3 25 [.slice none 0 0, .slice none 0 0, .slice none 0 0], .blk b4 25 [.slice A16_0_supply l4.length c16_0_supply, .slice A16_0_demand r1.demand.length c16_0_demand, .slice A16_0_cost r1.cost.length c16_0_cost]] := H.mod 0 rfl M2 O2 (.inl rfl)
              replace R0 := H.ext
              refine LW.nil (hK25 _ _ ?_)
              obtain ⟨hg4, F⟩ := gd_some F
              refine CW.region ?_
              refine LW.pure rfl rfl (RV.add rfl rfl hg4) ?_
              refine LW.pure rfl rfl (RV.move rfl) ?_
              refine LW.nil ?_
              replace H := H.cast (L' := [.own A16_0_supply c16_0_supply 3 1 (List.map encN ((l4.set (Int.toNat t55_1) (x5 + x4)))), .own A16_0_demand c16_0_demand 3 1 (List.map encN r1.demand), .tab A16_0_cost c16_0_cost 22 hs16_0_cost 3 1 (encM encN r1.cost), .blk b2 25 [.slice A_a1_supply a1.supply.length c_a1_supply, .slice A_a1_demand a1.demand.length c_a1_demand, .slice A_a1_cost a1.cost.length c_a1_cost], .blk b3 25 [.slice none 0 0, .slice none 0 0, .slice none 0 0], .blk b4 25 [.slice A16_0_supply (((l4.set (Int.toNat t55_1) (x5 + x4))).length) c16_0_supply, .slice A16_0_demand r1.demand.length c16_0_demand, .slice A16_0_cost r1.cost.length c16_0_cost]]) (by first | rfl | (simp only [List.length_set]; done) | simp)
              subst hrec2
              refine ⟨mk2, Nat.lt_succ_self _, _, ?_, (t55_1 + 1), ((l4.set (Int.toNat t55_1) (x5 + x4))), F, rfl, H⟩
              exact ⟨rfl, rfl, rfl, rfl, rfl, rfl, rfl, trivial⟩
            ·
              replace F := ite_n hp7 F
              have hq7 := dec_f hp7
              refine CW.condF rfl hq7 ?_
              refine CW.exit (jK126 _ _ ⟨_, ?_, ⟨l4, F, rfl, H⟩⟩)
              exact ⟨rfl, rfl, rfl, rfl, trivial⟩
      ·
        intro K27 hK27 jK140
        by_cases hp8 : ((a0.supply.length : Int)) = ((a1.supply.length : Int))
        ·
          replace F := ite_y hp8 F
          have hq8 := dec_t hp8
          by_cases hp9 : ((a0.demand.length : Int)) = ((a1.demand.length : Int))
          ·
            replace F := ite_y hp9 F
            have hq9 := dec_t hp9
            obtain ⟨r6, hr6, F⟩ := bnd_some F
            refine CW.region ?_
            refine LW.pure rfl rfl (RV.fieldAddr Tf25_0 rfl) ?_
            refine LW.pure rfl rfl (RV.load1 Tk22 rfl ((H.blk 2 rfl).cells.off 0) rfl) ?_
            refine LW.pure rfl rfl (RV.len Ts22 rfl) ?_
            refine LW.pure rfl rfl (RV.fieldAddr Tf25_0 rfl) ?_
            refine LW.pure rfl rfl (RV.load1 Tk22 rfl ((H.blk 1 rfl).cells.off 0) rfl) ?_
            refine LW.pure rfl rfl (RV.len Ts22 rfl) ?_
            refine LW.pure rfl rfl (RV.nei rfl rfl) ?_
            refine LW.pure rfl rfl (RV.move rfl) ?_
            refine LW.pureYB rfl rfl rfl rfl (not_f hq8) (RV.fieldAddr Tf25_1 rfl) ?_
            refine LW.pureYB rfl rfl rfl rfl (not_f hq8) (RV.load1 Tk22 rfl ((H.blk 2 rfl).cells.off 1) rfl) ?_
            refine LW.pureYB rfl rfl rfl rfl (not_f hq8) (RV.len Ts22 rfl) ?_
            refine LW.pureYB rfl rfl rfl rfl (not_f hq8) (RV.fieldAddr Tf25_1 rfl) ?_
            refine LW.pureYB rfl rfl rfl rfl (not_f hq8) (RV.load1 Tk22 rfl ((H.blk 1 rfl).cells.off 1) rfl) ?_
            refine LW.pureYB rfl rfl rfl rfl (not_f hq8) (RV.len Ts22 rfl) ?_
            refine LW.pureYB rfl rfl rfl rfl (not_f hq8) (RV.nei rfl rfl) ?_
            refine LW.pure rfl rfl (RV.pickFB rfl (not_f hq8) rfl) ?_
            refine LW.pure rfl rfl (RV.move rfl) ?_
            refine LW.pureYB rfl rfl rfl rfl (not_f hq9) (RV.fieldAddr Tf25_2 rfl) ?_
            refine LW.pureYB rfl rfl rfl rfl (not_f hq9) (RV.load1 Tk23 rfl ((H.blk 2 rfl).cells.off 2) rfl) ?_
            refine LW.pureYB rfl rfl rfl rfl (not_f hq9) (RV.fieldAddr Tf25_2 rfl) ?_
            refine LW.pureYB rfl rfl rfl rfl (not_f hq9) (RV.load1 Tk23 rfl ((H.blk 1 rfl).cells.off 2) rfl) ?_
            refine LW.yesB rfl rfl rfl rfl (not_f hq9) (OW.call Tc82 rfl (slices_EqualFunc_int_int_int_int_ok (a0 := a0.cost) (a1 := a1.cost) (h_a0_cost.ext R0) (h_a1_cost.ext R0) hr6) ?_)
            rintro _ w17 ⟨rfl, E7⟩
            refine ⟨_, rfl, ?_⟩
            replace H := H.grow E7
            replace R0 := H.ext
            refine LW.pureYB rfl rfl rfl rfl (not_f hq9) (RV.not rfl) ?_
            refine LW.pure rfl rfl (RV.pickFB rfl (not_f hq9) rfl) ?_
            replace H := H.pick (L' := [.blk b1 25 [.slice A_a0_supply a0.supply.length c_a0_supply, .slice A_a0_demand a0.demand.length c_a0_demand, .slice A_a0_cost a0.cost.length c_a0_cost], .blk b2 25 [.slice A_a1_supply a1.supply.length c_a1_supply, .slice A_a1_demand a1.demand.length c_a1_demand, .slice A_a1_cost a1.cost.length c_a1_cost], .blk b3 25 [.slice none 0 0, .slice none 0 0, .slice none 0 0]]) [2, 1, 0] (by decide) rfl
            replace R0 := H.ext
            refine LW.nil (jK140 _ _ ⟨_, ?_, ⟨(!r6), F, rfl, H⟩⟩)
            exact ⟨rfl, rfl, rfl, rfl, rfl, trivial⟩
          ·
            replace F := ite_n hp9 F
            have hq9 := dec_f hp9
            refine CW.region ?_
            refine LW.pure rfl rfl (RV.fieldAddr Tf25_0 rfl) ?_
            refine LW.pure rfl rfl (RV.load1 Tk22 rfl ((H.blk 2 rfl).cells.off 0) rfl) ?_
            refine LW.pure rfl rfl (RV.len Ts22 rfl) ?_
            refine LW.pure rfl rfl (RV.fieldAddr Tf25_0 rfl) ?_
            refine LW.pure rfl rfl (RV.load1 Tk22 rfl ((H.blk 1 rfl).cells.off 0) rfl) ?_
            refine LW.pure rfl rfl (RV.len Ts22 rfl) ?_
            refine LW.pure rfl rfl (RV.nei rfl rfl) ?_
            refine LW.pure rfl rfl (RV.move rfl) ?_
            refine LW.pureYB rfl rfl rfl rfl (not_f hq8) (RV.fieldAddr Tf25_1 rfl) ?_
            refine LW.pureYB rfl rfl rfl rfl (not_f hq8) (RV.load1 Tk22 rfl ((H.blk 2 rfl).cells.off 1) rfl) ?_
            refine LW.pureYB rfl rfl rfl rfl (not_f hq8) (RV.len Ts22 rfl) ?_
            refine LW.pureYB rfl rfl rfl rfl (not_f hq8) (RV.fieldAddr Tf25_1 rfl) ?_
            refine LW.pureYB rfl rfl rfl rfl (not_f hq8) (RV.load1 Tk22 rfl ((H.blk 1 rfl).cells.off 1) rfl) ?_
            refine LW.pureYB rfl rfl rfl rfl (not_f hq8) (RV.len Ts22 rfl) ?_
            refine LW.pureYB rfl rfl rfl rfl (not_f hq8) (RV.nei rfl rfl) ?_
            refine LW.pure rfl rfl (RV.pickFB rfl (not_f hq8) rfl) ?_
            refine LW.pure rfl rfl (RV.move rfl) ?_
            refine LW.noB rfl rfl rfl rfl (ne_beq (v := true) (not_t hq9) rfl) ?_
            refine LW.noB rfl rfl rfl rfl (ne_beq (v := true) (not_t hq9) rfl) ?_
            refine LW.noB rfl rfl rfl rfl (ne_beq (v := true) (not_t hq9) rfl) ?_
            refine LW.noB rfl rfl rfl rfl (ne_beq (v := true) (not_t hq9) rfl) ?_
            refine LW.noB rfl rfl rfl rfl (ne_beq (v := true) (not_t hq9) rfl) ?_
            refine LW.noB rfl rfl rfl rfl (ne_beq (v := true) (not_t hq9) rfl) ?_
            refine LW.pure rfl rfl (RV.pickTB rfl (not_t hq9) rfl) ?_
            replace H := H.pick (L' := [.blk b1 25 [.slice A_a0_supply a0.supply.length c_a0_supply, .slice A_a0_demand a0.demand.length c_a0_demand, .slice A_a0_cost a0.cost.length c_a0_cost], .blk b2 25 [.slice A_a1_supply a1.supply.length c_a1_supply, .slice A_a1_demand a1.demand.length c_a1_demand, .slice A_a1_cost a1.cost.length c_a1_cost], .blk b3 25 [.slice none 0 0, .slice none 0 0, .slice none 0 0]]) [2, 1, 0] (by decide) rfl
            replace R0 := H.ext
            refine LW.nil (jK140 _ _ ⟨_, ?_, ⟨true, F, rfl, H⟩⟩)
            exact ⟨rfl, rfl, rfl, rfl, rfl, trivial⟩
        ·
          replace F := ite_n hp8 F
          have hq8 := dec_f hp8
          refine CW.region ?_
          refine LW.pure rfl rfl (RV.fieldAddr Tf25_0 rfl) ?_
          refine LW.pure rfl rfl (RV.load1 Tk22 rfl ((H.blk 2 rfl).cells.off 0) rfl) ?_
          refine LW.pure rfl rfl (RV.len Ts22 rfl) ?_
          refine LW.pure rfl rfl (RV.fieldAddr Tf25_0 rfl) ?_
          refine LW.pure rfl rfl (RV.load1 Tk22 rfl ((H.blk 1 rfl).cells.off 0) rfl) ?_
          refine LW.pure rfl rfl (RV.len Ts22 rfl) ?_
          refine LW.pure rfl rfl (RV.nei rfl rfl) ?_
          refine LW.pure rfl rfl (RV.move rfl) ?_
          refine LW.noB rfl rfl rfl rfl (ne_beq (v := true) (not_t hq8) rfl) ?_
          refine LW.noB rfl rfl rfl rfl (ne_beq (v := true) (not_t hq8) rfl) ?_
          refine LW.noB rfl rfl rfl rfl (ne_beq (v := true) (not_t hq8) rfl) ?_
          refine LW.noB rfl rfl rfl rfl (ne_beq (v := true) (not_t hq8) rfl) ?_
          refine LW.noB rfl rfl rfl rfl (ne_beq (v := true) (not_t hq8) rfl) ?_
          refine LW.noB rfl rfl rfl rfl (ne_beq (v := true) (not_t hq8) rfl) ?_
          refine LW.noB rfl rfl rfl rfl (ne_beq (v := true) (not_t hq8) rfl) ?_
          refine LW.pure rfl rfl (RV.pickTB rfl (not_t hq8) rfl) ?_
          refine LW.pure rfl rfl (RV.move rfl) ?_
          refine LW.noB rfl rfl rfl rfl (ne_beq (v := true) rfl rfl) ?_
          refine LW.noB rfl rfl rfl rfl (ne_beq (v := true) rfl rfl) ?_
          refine LW.noB rfl rfl rfl rfl (ne_beq (v := true) rfl rfl) ?_
          refine LW.noB rfl rfl rfl rfl (ne_beq (v := true) rfl rfl) ?_
          refine LW.noB rfl rfl rfl rfl (ne_beq (v := true) rfl rfl) ?_
          refine LW.noB rfl rfl rfl rfl (ne_beq (v := true) rfl rfl) ?_
          refine LW.pure rfl rfl (RV.pickTB rfl rfl rfl) ?_
          replace H := H.pick (L' := [.blk b1 25 [.slice A_a0_supply a0.supply.length c_a0_supply, .slice A_a0_demand a0.demand.length c_a0_demand, .slice A_a0_cost a0.cost.length c_a0_cost], .blk b2 25 [.slice A_a1_supply a1.supply.length c_a1_supply, .slice A_a1_demand a1.demand.length c_a1_demand, .slice A_a1_cost a1.cost.length c_a1_cost], .blk b3 25 [.slice none 0 0, .slice none 0 0, .slice none 0 0]]) [2, 1, 0] (by decide) rfl
          replace R0 := H.ext
          refine LW.nil (jK140 _ _ ⟨_, ?_, ⟨true, F, rfl, H⟩⟩)
          exact ⟨rfl, rfl, rfl, rfl, rfl, trivial⟩
    ·
      replace F := ite_n hp2 F
      have hq2 := dec_f hp2
      refine CW.condT rfl (not_t hq2) ?_
      refine CW.seq fun K28 hK28 => ?_
      refine CW.region ?_
      refine LW.pure rfl rfl (RV.build (vs := []) (cs := [.slice none 0 0, .slice none 0 0, .slice none 0 0]) rfl (fun _ => by kernel_rfl)) ?_
      refine LW.pure rfl rfl (RV.move rfl) ?_
      refine LW.go rfl rfl (OW.store Tk25 rfl rfl (H.blk 0 rfl) (off := 0) (vs := [.slice none 0 0, .slice none 0 0, .slice none 0 0]) rfl rfl rfl rfl rfl fun w18 S5 => ?_)
      replace H : Hp w w18 [.blk b3 25 [.slice none 0 0, .slice none 0 0, .slice none 0 0], .blk b2 25 [.slice A_a1_supply a1.supply.length c_a1_supply, .slice A_a1_demand a1.demand.length c_a1_demand, .slice A_a1_cost a1.cost.length c_a1_cost], .blk b1 25 [.slice A_a0_supply a0.supply.length c_a0_supply, .slice A_a0_demand a0.demand.length c_a0_demand, .slice A_a0_cost a0.cost.length c_a0_cost]] := H.stored 0 rfl S5
      replace R0 := H.ext
      refine LW.pure rfl rfl (RV.assign rfl) ?_
      refine LW.nil (hK28 _ _ ?_)
      refine CW.ret ?_
      obtain rfl := Option.some.inj F
      refine ⟨_, (ResOK.two ⟨_, rfl, run_loadVar_agg Tk25 (H.blk 0 rfl).cells (us := [.slice none 0 0, .slice none 0 0, .slice none 0 0]) rfl rfl⟩ rfl), ?_⟩
      replace H := H.nilOwn 3 1
      replace R0 := H.ext
      replace H := H.nilOwn 3 1
      replace R0 := H.ext
      replace H := H.nilTab encN 22 3 1
      replace R0 := H.ext
      replace H := H.pick (L' := [.own none 0 3 1 (List.map encN (([] : List Int))), .own none 0 3 1 (List.map encN (([] : List Int))), .tab none 0 22 ([]) 3 1 (encM encN (([] : List (List Int))))]) [2, 1, 0] (by decide) rfl
      replace R0 := H.ext
      exact ⟨none, 0, none, 0, none, 0, ([]), (by first | rfl | (simp; done) | (simp; omega)), H⟩
  ·
    replace F := ite_n hp1 F
    have hq1 := dec_f hp1
    refine CW.condT rfl (not_t hq1) ?_
    refine CW.seq fun K29 hK29 => ?_
    refine CW.region ?_
    refine LW.pure rfl rfl (RV.build (vs := []) (cs := [.slice none 0 0, .slice none 0 0, .slice none 0 0]) rfl (fun _ => by kernel_rfl)) ?_
    refine LW.pure rfl rfl (RV.move rfl) ?_
    refine LW.go rfl rfl (OW.store Tk25 rfl rfl (H.blk 0 rfl) (off := 0) (vs := [.slice none 0 0, .slice none 0 0, .slice none 0 0]) rfl rfl rfl rfl rfl fun w19 S6 => ?_)
    replace H : Hp w w19 [.blk b3 25 [.slice none 0 0, .slice none 0 0, .slice none 0 0], .blk b2 25 [.slice A_a1_supply a1.supply.length c_a1_supply, .slice A_a1_demand a1.demand.length c_a1_demand, .slice A_a1_cost a1.cost.length c_a1_cost], .blk b1 25 [.slice A_a0_supply a0.supply.length c_a0_supply, .slice A_a0_demand a0.demand.length c_a0_demand, .slice A_a0_cost a0.cost.length c_a0_cost]] := H.stored 0 rfl S6
    replace R0 := H.ext
    refine LW.pure rfl rfl (RV.assign rfl) ?_
    refine LW.nil (hK29 _ _ ?_)
    refine CW.ret ?_
    obtain rfl := Option.some.inj F
    refine ⟨_, (ResOK.two ⟨_, rfl, run_loadVar_agg Tk25 (H.blk 0 rfl).cells (us := [.slice none 0 0, .slice none 0 0, .slice none 0 0]) rfl rfl⟩ rfl), ?_⟩
    replace H := H.nilOwn 3 1
    replace R0 := H.ext
    replace H := H.nilOwn 3 1
    replace R0 := H.ext
    replace H := H.nilTab encN 22 3 1
    replace R0 := H.ext
    replace H := H.pick (L' := [.own none 0 3 1 (List.map encN (([] : List Int))), .own none 0 3 1 (List.map encN (([] : List Int))), .tab none 0 22 ([]) 3 1 (encM encN (([] : List (List Int))))]) [2, 1, 0] (by decide) rfl
    replace R0 := H.ext
    exact ⟨none, 0, none, 0, none, 0, ([]), (by first | rfl | (simp; done) | (simp; omega)), H⟩
end Go.D7

set_option linter.unusedVariables false
set_option linter.unusedSimpArgs false
namespace Go.D7
open Go.Tb Go.Proofs Go.RowKit
set_option maxRecDepth 20000 in
set_option maxHeartbeats 1000000 in
theorem ref07_Add_ok {a0 : Trade} {a1 : Trade} {A_a0_supply : Option Addr} {c_a0_supply : Nat} {A_a0_demand : Option Addr} {c_a0_demand : Nat} {A_a0_cost : Option Addr} {c_a0_cost : Nat} {A_a1_supply : Option Addr} {c_a1_supply : Nat} {A_a1_demand : Option Addr} {c_a1_demand : Nat} {A_a1_cost : Option Addr} {c_a1_cost : Nat} {w : World} {res : Trade × Int} (h_a0_supply : Sl w A_a0_supply c_a0_supply 1 (a0.supply.map encN)) (h_a0_demand : Sl w A_a0_demand c_a0_demand 1 (a0.demand.map encN)) (h_a0_cost : Sl2 w A_a0_cost c_a0_cost 1 encN a0.cost) (h_a1_supply : Sl w A_a1_supply c_a1_supply 1 (a1.supply.map encN)) (h_a1_demand : Sl w A_a1_demand c_a1_demand 1 (a1.demand.map encN)) (h_a1_cost : Sl2 w A_a1_cost c_a1_cost 1 encN a1.cost) (F : ref07_Add a0 a1 = some res) : Calls Try.prog 46 #[.agg #[.slice A_a0_supply a0.supply.length c_a0_supply, .slice A_a0_demand a0.demand.length c_a0_demand, .slice A_a0_cost a0.cost.length c_a0_cost], .agg #[.slice A_a1_supply a1.supply.length c_a1_supply, .slice A_a1_demand a1.demand.length c_a1_demand, .slice A_a1_cost a1.cost.length c_a1_cost]] w (fun e w' => ∃ (A0_supply : Option Addr) (c0_supply : Nat) (A0_demand : Option Addr) (c0_demand : Nat) (A0_cost : Option Addr) (c0_cost : Nat) (hs0_cost : List (Option Addr × Nat)), e = .returned (.tuple #[.agg #[.slice A0_supply res.1.supply.length c0_supply, .slice A0_demand res.1.demand.length c0_demand, .slice A0_cost res.1.cost.length c0_cost], .int .i64 res.2]) ∧ Hp w w' [.own A0_supply c0_supply 3 1 (List.map encN res.1.supply), .own A0_demand c0_demand 3 1 (List.map encN res.1.demand), .tab A0_cost c0_cost 22 hs0_cost 3 1 (encM encN res.1.cost)]) := by
  refine calls_of_cw (args := [.agg #[.slice A_a0_supply a0.supply.length c_a0_supply, .slice A_a0_demand a0.demand.length c_a0_demand, .slice A_a0_cost a0.cost.length c_a0_cost], .agg #[.slice A_a1_supply a1.supply.length c_a1_supply, .slice A_a1_demand a1.demand.length c_a1_demand, .slice A_a1_cost a1.cost.length c_a1_cost]]) Try.func46 rfl rfl rfl rfl ?_
  have H := Hp.start w
  have R0 := H.ext
  unfold ref07_Add at F
  refine CW.seq fun K1 hK1 => ?_
  refine CW.region ?_
  refine LW.go rfl rfl (OW.box rfl fun b1 w1 N1 => ?_)
  replace H := H.new N1 N1.blk
  replace R0 := H.ext
  refine LW.go rfl rfl (OW.box rfl fun b2 w2 N2 => ?_)
  replace H := H.new N2 N2.blk
  replace R0 := H.ext
  refine LW.go rfl rfl (OW.alloc Tz25 fun b3 w3 N3 => ?_)
  replace H := H.new N3 N3.blk
  replace R0 := H.ext
  refine LW.pure rfl rfl (RV.assign rfl) ?_
  refine LW.nil (hK1 _ _ ?_)
  refine CW.seq fun K2 hK2 => ?_
  refine CW.seqJ (fun ρ wl1 => (∃ (t42_1 : Bool), ref07_Add_k3 a0 a1 t42_1 = some res ∧ ρ = [(2, .pointer (some (⟨b1, 0, none⟩))), (3, .pointer (some (⟨b2, 0, none⟩))), (4, .pointer (some (⟨b3, 0, none⟩))), (5, .int .i64 0), (42, .bool t42_1)] ∧ Hp w wl1 [.blk b1 25 [.slice A_a0_supply a0.supply.length c_a0_supply, .slice A_a0_demand a0.demand.length c_a0_demand, .slice A_a0_cost a0.cost.length c_a0_cost], .blk b2 25 [.slice A_a1_supply a1.supply.length c_a1_supply, .slice A_a1_demand a1.demand.length c_a1_demand, .slice A_a1_cost a1.cost.length c_a1_cost], .blk b3 25 [.slice none 0 0, .slice none 0 0, .slice none 0 0]])) ?_ ?_
  ·
    rintro _ wl1 ⟨t42_1, F, rfl, H⟩
    have R0 := H.ext
    unfold ref07_Add_k3 at F
    by_cases hp1 : t42_1 = true
    ·
      replace F := ite_y hp1 F
      have hq1 : t42_1 = true := hp1
      refine CW.condT rfl hq1 ?_
      refine CW.seq fun K3 hK3 => ?_
      refine CW.region ?_
      refine LW.pure rfl rfl (RV.build (vs := []) (cs := [.slice none 0 0, .slice none 0 0, .slice none 0 0]) rfl (fun _ => by kernel_rfl)) ?_
      refine LW.go rfl rfl (OW.store Tk25 rfl rfl (H.blk 2 rfl) (off := 0) (vs := [.slice none 0 0, .slice none 0 0, .slice none 0 0]) rfl rfl rfl rfl rfl fun w4 S1 => ?_)
      replace H : Hp w w4 [.blk b1 25 [.slice A_a0_supply a0.supply.length c_a0_supply, .slice A_a0_demand a0.demand.length c_a0_demand, .slice A_a0_cost a0.cost.length c_a0_cost], .blk b2 25 [.slice A_a1_supply a1.supply.length c_a1_supply, .slice A_a1_demand a1.demand.length c_a1_demand, .slice A_a1_cost a1.cost.length c_a1_cost], .blk b3 25 [.slice none 0 0, .slice none 0 0, .slice none 0 0]] := H.stored 2 rfl S1
      replace R0 := H.ext
      refine LW.pure rfl rfl (RV.assign rfl) ?_
      refine LW.nil (hK3 _ _ ?_)
      refine CW.ret ?_
      obtain rfl := Option.some.inj F
      refine ⟨_, (ResOK.two ⟨_, rfl, run_loadVar_agg Tk25 (H.blk 2 rfl).cells (us := [.slice none 0 0, .slice none 0 0, .slice none 0 0]) rfl rfl⟩ rfl), ?_⟩
      replace H := H.nilOwn 3 1
      replace R0 := H.ext
      replace H := H.nilOwn 3 1
      replace R0 := H.ext
      replace H := H.nilTab encN 22 3 1
      replace R0 := H.ext
      replace H := H.pick (L' := [.own none 0 3 1 (List.map encN (([] : List Int))), .own none 0 3 1 (List.map encN (([] : List Int))), .tab none 0 22 ([]) 3 1 (encM encN (([] : List (List Int))))]) [2, 1, 0] (by decide) rfl
      replace R0 := H.ext
      exact ⟨none, 0, none, 0, none, 0, ([]), (by first | rfl | (simp; done) | (simp; omega)), H⟩
    ·
      replace F := ite_n hp1 F
      have hq1 : t42_1 = false := raw_f hp1
      refine CW.condF rfl hq1 ?_
      refine CW.skip (hK2 _ _ ?_)
      refine CW.seq fun K4 hK4 => ?_
      obtain ⟨r1, hr1, F⟩ := bnd_some F
      refine CW.region ?_
      refine LW.pure rfl rfl (RV.loadA [.slice A_a0_supply a0.supply.length c_a0_supply, .slice A_a0_demand a0.demand.length c_a0_demand, .slice A_a0_cost a0.cost.length c_a0_cost] Tk25 rfl (H.blk 0 rfl).cells rfl rfl) ?_
      refine LW.go rfl rfl (OW.call Tc66 rfl (ref07_Copy_ok (a0 := a0) (h_a0_supply.ext R0) (h_a0_demand.ext R0) (h_a0_cost.ext R0) hr1) ?_)
      rintro _ w5 ⟨A13_0_supply, c13_0_supply, A13_0_demand, c13_0_demand, A13_0_cost, c13_0_cost, hs13_0_cost, rfl, E1⟩
      refine ⟨_, rfl, ?_⟩
      replace H : Hp w w5 [.own A13_0_supply c13_0_supply 3 1 (List.map encN r1.supply), .own A13_0_demand c13_0_demand 3 1 (List.map encN r1.demand), .tab A13_0_cost c13_0_cost 22 hs13_0_cost 3 1 (encM encN r1.cost), .blk b1 25 [.slice A_a0_supply a0.supply.length c_a0_supply, .slice A_a0_demand a0.demand.length c_a0_demand, .slice A_a0_cost a0.cost.length c_a0_cost], .blk b2 25 [.slice A_a1_supply a1.supply.length c_a1_supply, .slice A_a1_demand a1.demand.length c_a1_demand, .slice A_a1_cost a1.cost.length c_a1_cost], .blk b3 25 [.slice none 0 0, .slice none 0 0, .slice none 0 0]] := H.append E1
      replace R0 := H.ext
      refine LW.go rfl rfl (OW.alloc Tz25 fun b4 w6 N4 => ?_)
      replace H := H.new N4 N4.blk
      replace R0 := H.ext
      refine LW.go rfl rfl (OW.store Tk25 rfl rfl (H.blk 0 rfl) (off := 0) (vs := [.slice A13_0_supply r1.supply.length c13_0_supply, .slice A13_0_demand r1.demand.length c13_0_demand, .slice A13_0_cost r1.cost.length c13_0_cost]) rfl rfl rfl rfl rfl fun w7 S2 => ?_)
      replace H : Hp w w7 [.blk b4 25 [.slice A13_0_supply r1.supply.length c13_0_supply, .slice A13_0_demand r1.demand.length c13_0_demand, .slice A13_0_cost r1.cost.length c13_0_cost], .own A13_0_supply c13_0_supply 3 1 (List.map encN r1.supply), .own A13_0_demand c13_0_demand 3 1 (List.map encN r1.demand), .tab A13_0_cost c13_0_cost 22 hs13_0_cost 3 1 (encM encN r1.cost), .blk b1 25 [.slice A_a0_supply a0.supply.length c_a0_supply, .slice A_a0_demand a0.demand.length c_a0_demand, .slice A_a0_cost a0.cost.length c_a0_cost], .blk b2 25 [.slice A_a1_supply a1.supply.length c_a1_supply, .slice A_a1_demand a1.demand.length c_a1_demand, .slice A_a1_cost a1.cost.length c_a1_cost], .blk b3 25 [.slice none 0 0, .slice none 0 0, .slice none 0 0]] := H.stored 0 rfl S2
      replace R0 := H.ext
      refine LW.nil (hK4 _ _ ?_)
      refine CW.seqJ (fun ρ wl2 => (∃ (l1 : List Int), ref07_Add_k2 a1 r1 l1 = some res ∧ ρ = [(3, .pointer (some (⟨b2, 0, none⟩))), (4, .pointer (some (⟨b3, 0, none⟩))), (5, .int .i64 0), (6, .pointer (some (⟨b4, 0, none⟩)))] ∧ Hp w wl2 [.own A13_0_supply c13_0_supply 3 1 (List.map encN l1), .own A13_0_demand c13_0_demand 3 1 (List.map encN r1.demand), .tab A13_0_cost c13_0_cost 22 hs13_0_cost 3 1 (encM encN r1.cost), .blk b2 25 [.slice A_a1_supply a1.supply.length c_a1_supply, .slice A_a1_demand a1.demand.length c_a1_demand, .slice A_a1_cost a1.cost.length c_a1_cost], .blk b3 25 [.slice none 0 0, .slice none 0 0, .slice none 0 0], .blk b4 25 [.slice A13_0_supply l1.length c13_0_supply, .slice A13_0_demand r1.demand.length c13_0_demand, .slice A13_0_cost r1.cost.length c13_0_cost]])) ?_ ?_
      ·
        rintro _ wl2 ⟨l1, F, rfl, H⟩
        have R0 := H.ext
        unfold ref07_Add_k2 at F
        refine CW.seqJ (fun ρ wl3 => (∃ (l2 : List Int), ref07_Add_k1 r1 l1 l2 = some res ∧ ρ = [(4, .pointer (some (⟨b3, 0, none⟩))), (5, .int .i64 0), (6, .pointer (some (⟨b4, 0, none⟩)))] ∧ Hp w wl3 [.own A13_0_supply c13_0_supply 3 1 (List.map encN l1), .own A13_0_demand c13_0_demand 3 1 (List.map encN l2), .tab A13_0_cost c13_0_cost 22 hs13_0_cost 3 1 (encM encN r1.cost), .blk b3 25 [.slice none 0 0, .slice none 0 0, .slice none 0 0], .blk b4 25 [.slice A13_0_supply l1.length c13_0_supply, .slice A13_0_demand l2.length c13_0_demand, .slice A13_0_cost r1.cost.length c13_0_cost]])) ?_ ?_
        ·
          rintro _ wl3 ⟨l2, F, rfl, H⟩
          have R0 := H.ext
          unfold ref07_Add_k1 at F
          refine CW.seq fun K5 hK5 => ?_
          refine CW.seq fun K6 hK6 => ?_
          obtain ⟨r2, hr2, F⟩ := bnd_some F
          refine CW.region ?_
          refine LW.pure rfl rfl (RV.loadA [.slice A13_0_supply l1.length c13_0_supply, .slice A13_0_demand l2.length c13_0_demand, .slice A13_0_cost r1.cost.length c13_0_cost] Tk25 rfl (H.blk 4 rfl).cells rfl rfl) ?_
          refine LW.go rfl rfl (OW.call Tc39 rfl (ref07_Validate_ok (a0 := (⟨l1, l2, r1.cost⟩ : Trade)) (H.own 0 rfl).sl (H.own 1 rfl).sl (H.tab 2 rfl).sl2 hr2) ?_)
          rintro _ w8 ⟨rfl, E2⟩
          refine ⟨_, rfl, ?_⟩
          replace H := H.grow E2
          replace R0 := H.ext
          refine LW.pure rfl rfl (RV.nei rfl rfl) ?_
          refine LW.nil (hK6 _ _ ?_)
          by_cases hp2 : r2 = 0
          ·
            replace F := ite_y hp2 F
            have hq2 := dec_t hp2
            refine CW.condF rfl (not_f hq2) ?_
            refine CW.skip (hK5 _ _ ?_)
            refine CW.seq fun K7 hK7 => ?_
            refine CW.region ?_
            refine LW.pure rfl rfl (RV.loadA [.slice A13_0_supply l1.length c13_0_supply, .slice A13_0_demand l2.length c13_0_demand, .slice A13_0_cost r1.cost.length c13_0_cost] Tk25 rfl (H.blk 4 rfl).cells rfl rfl) ?_
            refine LW.go rfl rfl (OW.store Tk25 rfl rfl (H.blk 3 rfl) (off := 0) (vs := [.slice A13_0_supply l1.length c13_0_supply, .slice A13_0_demand l2.length c13_0_demand, .slice A13_0_cost r1.cost.length c13_0_cost]) rfl rfl rfl rfl rfl fun w9 S3 => ?_)
            replace H : Hp w w9 [.own A13_0_supply c13_0_supply 3 1 (List.map encN l1), .own A13_0_demand c13_0_demand 3 1 (List.map encN l2), .tab A13_0_cost c13_0_cost 22 hs13_0_cost 3 1 (encM encN r1.cost), .blk b3 25 [.slice A13_0_supply l1.length c13_0_supply, .slice A13_0_demand l2.length c13_0_demand, .slice A13_0_cost r1.cost.length c13_0_cost], .blk b4 25 [.slice A13_0_supply l1.length c13_0_supply, .slice A13_0_demand l2.length c13_0_demand, .slice A13_0_cost r1.cost.length c13_0_cost]] := H.stored 3 rfl S3
            replace R0 := H.ext
            refine LW.pure rfl rfl (RV.assign rfl) ?_
            refine LW.nil (hK7 _ _ ?_)
            refine CW.ret ?_
            obtain rfl := Option.some.inj F
            refine ⟨_, (ResOK.two ⟨_, rfl, run_loadVar_agg Tk25 (H.blk 3 rfl).cells (us := [.slice A13_0_supply l1.length c13_0_supply, .slice A13_0_demand l2.length c13_0_demand, .slice A13_0_cost r1.cost.length c13_0_cost]) rfl rfl⟩ rfl), ?_⟩
            replace H := H.pick (L' := [.own A13_0_supply c13_0_supply 3 1 (List.map encN l1), .own A13_0_demand c13_0_demand 3 1 (List.map encN l2), .tab A13_0_cost c13_0_cost 22 hs13_0_cost 3 1 (encM encN r1.cost)]) [0, 1, 2] (by decide) rfl
            replace R0 := H.ext
            exact ⟨A13_0_supply, c13_0_supply, A13_0_demand, c13_0_demand, A13_0_cost, c13_0_cost, hs13_0_cost, (by first | rfl | (simp; done) | (simp; omega)), H⟩
          ·
            replace F := ite_n hp2 F
            have hq2 := dec_f hp2
            refine CW.condT rfl (not_t hq2) ?_
            refine CW.seq fun K8 hK8 => ?_
            refine CW.region ?_
            refine LW.pure rfl rfl (RV.build (vs := []) (cs := [.slice none 0 0, .slice none 0 0, .slice none 0 0]) rfl (fun _ => by kernel_rfl)) ?_
            refine LW.go rfl rfl (OW.store Tk25 rfl rfl (H.blk 3 rfl) (off := 0) (vs := [.slice none 0 0, .slice none 0 0, .slice none 0 0]) rfl rfl rfl rfl rfl fun w10 S4 => ?_)
            replace H : Hp w w10 [.own A13_0_supply c13_0_supply 3 1 (List.map encN l1), .own A13_0_demand c13_0_demand 3 1 (List.map encN l2), .tab A13_0_cost c13_0_cost 22 hs13_0_cost 3 1 (encM encN r1.cost), .blk b3 25 [.slice none 0 0, .slice none 0 0, .slice none 0 0], .blk b4 25 [.slice A13_0_supply l1.length c13_0_supply, .slice A13_0_demand l2.length c13_0_demand, .slice A13_0_cost r1.cost.length c13_0_cost]] := H.stored 3 rfl S4
            replace R0 := H.ext
            refine LW.pure rfl rfl (RV.assign rfl) ?_
            refine LW.nil (hK8 _ _ ?_)
            refine CW.ret ?_
            obtain rfl := Option.some.inj F
            refine ⟨_, (ResOK.two ⟨_, rfl, run_loadVar_agg Tk25 (H.blk 3 rfl).cells (us := [.slice none 0 0, .slice none 0 0, .slice none 0 0]) rfl rfl⟩ rfl), ?_⟩
            replace H := H.nilOwn 3 1
            replace R0 := H.ext
            replace H := H.nilOwn 3 1
            replace R0 := H.ext
            replace H := H.nilTab encN 22 3 1
            replace R0 := H.ext
            replace H := H.pick (L' := [.own none 0 3 1 (List.map encN (([] : List Int))), .own none 0 3 1 (List.map encN (([] : List Int))), .tab none 0 22 ([]) 3 1 (encM encN (([] : List (List Int))))]) [2, 1, 0] (by decide) rfl
            replace R0 := H.ext
            exact ⟨none, 0, none, 0, none, 0, ([]), (by first | rfl | (simp; done) | (simp; omega)), H⟩
        ·
          intro K9 hK9 jK80
          refine CW.seq fun K10 hK10 => ?_
          refine CW.region ?_
          refine LW.pure rfl rfl (RV.assign rfl) ?_
          refine LW.nil (hK10 _ _ ?_)
          refine CW.block ?_
          refine CW.loop (fun meas ρ wl4 => ∃ (t8_1 : Int) (l3 : List Int), ref07_Add_L1 a1 r1 l1 meas t8_1 l3 = some res ∧ ρ = [(3, .pointer (some (⟨b2, 0, none⟩))), (4, .pointer (some (⟨b3, 0, none⟩))), (5, .int .i64 0), (6, .pointer (some (⟨b4, 0, none⟩))), (8, .int .i64 t8_1)] ∧ Hp w wl4 [.own A13_0_supply c13_0_supply 3 1 (List.map encN l1), .own A13_0_demand c13_0_demand 3 1 (List.map encN l3), .tab A13_0_cost c13_0_cost 22 hs13_0_cost 3 1 (encM encN r1.cost), .blk b2 25 [.slice A_a1_supply a1.supply.length c_a1_supply, .slice A_a1_demand a1.demand.length c_a1_demand, .slice A_a1_cost a1.cost.length c_a1_cost], .blk b3 25 [.slice none 0 0, .slice none 0 0, .slice none 0 0], .blk b4 25 [.slice A13_0_supply l1.length c13_0_supply, .slice A13_0_demand l3.length c13_0_demand, .slice A13_0_cost r1.cost.length c13_0_cost]]) FU ⟨_, ?_, ((0 : Int)), r1.demand, F, rfl, H⟩ ?_
          · exact ⟨rfl, rfl, rfl, rfl, rfl, trivial⟩
          rintro mk1 _ wl4 ⟨t8_1, l3, F, rfl, H⟩
          have R0 := H.ext
          replace F := ref07_Add_L1_s F
          obtain ⟨mk1, rfl, F⟩ := F
          generalize hrec1 : ref07_Add_L1 a1 r1 l1 mk1 = rec1 at F
          unfold ref07_Add_B1 at F
          refine CW.seq fun K11 hK11 => ?_
          refine CW.seq fun K12 hK12 => ?_
          refine CW.region ?_
          refine LW.pure rfl rfl (RV.move rfl) ?_
          refine LW.pure rfl rfl (RV.fieldAddr Tf25_1 rfl) ?_
          refine LW.pure rfl rfl (RV.load1 Tk22 rfl ((H.blk 5 rfl).cells.off 1) rfl) ?_
          refine LW.pure rfl rfl (RV.len Ts22 rfl) ?_
          refine LW.pure rfl rfl (RV.lss rfl rfl) ?_
          refine LW.nil (hK12 _ _ ?_)
          by_cases hp3 : t8_1 < ((l3.length : Int))
          ·
            replace F := ite_y hp3 F
            have hq3 := dec_t hp3
            refine CW.condT rfl hq3 ?_
            refine CW.skip (hK11 _ _ ?_)
            refine CW.seq fun K13 hK13 => ?_
            refine CW.block ?_
            obtain ⟨x1, hbx1, hx1, F⟩ := ix_some F
            obtain ⟨x2, hbx2, hx2, F⟩ := ix_some F
            obtain ⟨hg1, F⟩ := gd_some F
            obtain ⟨x3, hbx3, hx3, F⟩ := ix_some F
            refine CW.draw [12] (fun _ => True) (.cons 0 1 (.cons 1 1 (.cons 2 1 (.cons 3 1 (.cons 4 1 (.cons 5 1 (.cons 6 1 (.cons 7 1 (.cons 8 1 (.cons 9 1 (.cons 10 1 (.cons 11 1 (.cons 12 0 .nil))))))))))))) mixed (by kernel_rfl) fun w11 E3 => ?_
            replace H := H.grow E3
            replace R0 := H.ext
            refine DW.fix rfl rfl rfl (fun _ EQ => RV.fieldAddr Tf25_1 rfl) ?_
            refine DW.fix rfl rfl rfl (fun _ EQ => RV.load1 Tk22 rfl (((H.grow EQ).blk 5 rfl).cells.off 1) rfl) ?_
            refine DW.fix rfl rfl rfl (fun _ EQ => RV.move rfl) ?_
            refine DW.fix rfl rfl rfl (fun _ EQ => RV.indexAddr Ts22 rfl rfl hbx1 ((H.own 1 rfl).sl.addr_ hx1)) ?_
            refine DW.fix rfl rfl rfl (fun _ EQ => RV.load1 Tk3 rfl (((H.grow EQ).own 1 rfl).sl.at_ hx1) rfl) ?_
            refine DW.fix rfl rfl rfl (fun _ EQ => RV.fieldAddr Tf25_1 rfl) ?_
            refine DW.fix rfl rfl rfl (fun _ EQ => RV.load1 Tk22 rfl (((H.grow EQ).blk 3 rfl).cells.off 1) rfl) ?_
            refine DW.fix rfl rfl rfl (fun _ EQ => RV.move rfl) ?_
            refine DW.fix rfl rfl rfl (fun _ EQ => RV.indexAddr Ts22 rfl rfl hbx2 (h_a1_demand.addr_ hx2)) ?_
            refine DW.fix rfl rfl rfl (fun _ EQ => RV.load1 Tk3 rfl ((h_a1_demand.at_ hx2).ext (R0.trans EQ)) rfl) ?_
            refine DW.fix rfl rfl rfl (fun _ EQ => RV.add rfl rfl hg1) ?_
            refine DW.fix rfl rfl rfl (fun _ EQ => RV.indexAddr Ts22 rfl rfl hbx3 ((H.own 1 rfl).sl.addr_ hx3)) ?_
            refine DW.sole rfl rfl rfl (OW.storeO (enc := encN) (vs := [.int .i64 (x1 + x2)]) 0 (x1 + x2) Tk3 rfl rfl (H.own 1 rfl) (fun _ => rfl) rfl hx3 rfl rfl (by decide) rfl rfl fun w12 M1 O1 => ?_)
            refine ⟨fun h => absurd h (by decide), M1.modx (fun _ _ => trivial), ?_⟩
            replace H : Hp w w12 [.own A13_0_supply c13_0_supply 3 1 (List.map encN l1), .own A13_0_demand c13_0_demand 3 1 (List.map encN ((l3.set (Int.toNat t8_1) (x1 + x2)))), .tab A13_0_cost c13_0_cost 22 hs13_0_cost 3 1 (encM encN r1.cost), .blk b2 25 [.slice A_a1_supply a1.supply.length c_a1_supply, .slice A_a1_demand a1.demand.length c_a1_demand, .slice A_a1_cost a1.cost.length c_a1_cost], .blk b3 25 [.slice none 0 0, .slice none 0 0, .slice none 0 0], .blk b4 25 [.slice A13_0_supply l1.length c13_0_supply, .slice A13_0_demand l3.length c13_0_demand, .slice A13_0_cost r1.cost.length c13_0_cost]] := H.mod 1 rfl M1 O1 (.inl rfl)
            replace R0 := H.ext
            refine DW.nil (hK13 _ _ ?_)
            obtain ⟨hg2, F⟩ := gd_some F
            refine CW.region ?_
            refine LW.pure rfl rfl (RV.move rfl) ?_
            refine LW.pure rfl rfl (RV.add rfl rfl hg2) ?_
            refine LW.pure rfl rfl (RV.assign rfl) ?_
            refine LW.nil ?_
            replace H := H.cast (L' := [.own A13_0_supply c13_0_supply 3 1 (List.map encN l1), .own A13_0_demand c13_0_demand 3 1 (List.map encN ((l3.set (Int.toNat t8_1) (x1 + x2)))), .tab A13_0_cost c13_0_cost 22 hs13_0_cost 3 1 (encM encN r1.cost), .blk b2 25 [.slice A_a1_supply a1.supply.length c_a1_supply, .slice A_a1_demand a1.demand.length c_a1_demand, .slice A_a1_cost a1.cost.length c_a1_cost], .blk b3 25 [.slice none 0 0, .slice none 0 0, .slice none 0 0], .blk b4 25 [.slice A13_0_supply l1.length c13_0_supply, .slice A13_0_demand (((l3.set (Int.toNat t8_1) (x1 + x2))).length) c13_0_demand, .slice A13_0_cost r1.cost.length c13_0_cost]]) (by first | rfl | (simp only [List.length_set]; done) | simp)
            subst hrec1
            refine ⟨mk1, Nat.lt_succ_self _, _, ?_, (t8_1 + 1), ((l3.set (Int.toNat t8_1) (x1 + x2))), F, rfl, H⟩
            exact ⟨rfl, rfl, rfl, rfl, rfl, trivial⟩
          ·
            replace F := ite_n hp3 F
            have hq3 := dec_f hp3
            refine CW.condF rfl hq3 ?_
            replace H := H.pick (L' := [.own A13_0_supply c13_0_supply 3 1 (List.map encN l1), .own A13_0_demand c13_0_demand 3 1 (List.map encN l3), .tab A13_0_cost c13_0_cost 22 hs13_0_cost 3 1 (encM encN r1.cost), .blk b3 25 [.slice none 0 0, .slice none 0 0, .slice none 0 0], .blk b4 25 [.slice A13_0_supply l1.length c13_0_supply, .slice A13_0_demand l3.length c13_0_demand, .slice A13_0_cost r1.cost.length c13_0_cost]]) [0, 1, 2, 4, 5] (by decide) rfl
            replace R0 := H.ext
            refine CW.exit (jK80 _ _ ⟨_, ?_, ⟨l3, F, rfl, H⟩⟩)
            exact ⟨rfl, rfl, rfl, trivial⟩
      ·
        intro K14 hK14 jK91
        refine CW.seq fun K15 hK15 => ?_
        refine CW.region ?_
        refine LW.pure rfl rfl (RV.assign rfl) ?_
        refine LW.nil (hK15 _ _ ?_)
        refine CW.block ?_
        replace H := H.pick (L' := [.own A13_0_supply c13_0_supply 3 1 (List.map encN r1.supply), .own A13_0_demand c13_0_demand 3 1 (List.map encN r1.demand), .tab A13_0_cost c13_0_cost 22 hs13_0_cost 3 1 (encM encN r1.cost), .blk b2 25 [.slice A_a1_supply a1.supply.length c_a1_supply, .slice A_a1_demand a1.demand.length c_a1_demand, .slice A_a1_cost a1.cost.length c_a1_cost], .blk b3 25 [.slice none 0 0, .slice none 0 0, .slice none 0 0], .blk b4 25 [.slice A13_0_supply r1.supply.length c13_0_supply, .slice A13_0_demand r1.demand.length c13_0_demand, .slice A13_0_cost r1.cost.length c13_0_cost]]) [1, 2, 3, 5, 6, 0] (by decide) rfl
        replace R0 := H.ext
        refine CW.loop (fun meas ρ wl5 => ∃ (t7_1 : Int) (l4 : List Int), ref07_Add_L2 a1 r1 meas t7_1 l4 = some res ∧ ρ = [(3, .pointer (some (⟨b2, 0, none⟩))), (4, .pointer (some (⟨b3, 0, none⟩))), (5, .int .i64 0), (6, .pointer (some (⟨b4, 0, none⟩))), (7, .int .i64 t7_1)] ∧ Hp w wl5 [.own A13_0_supply c13_0_supply 3 1 (List.map encN l4), .own A13_0_demand c13_0_demand 3 1 (List.map encN r1.demand), .tab A13_0_cost c13_0_cost 22 hs13_0_cost 3 1 (encM encN r1.cost), .blk b2 25 [.slice A_a1_supply a1.supply.length c_a1_supply, .slice A_a1_demand a1.demand.length c_a1_demand, .slice A_a1_cost a1.cost.length c_a1_cost], .blk b3 25 [.slice none 0 0, .slice none 0 0, .slice none 0 0], .blk b4 25 [.slice A13_0_supply l4.length c13_0_supply, .slice A13_0_demand r1.demand.length c13_0_demand, .slice A13_0_cost r1.cost.length c13_0_cost]]) FU ⟨_, ?_, ((0 : Int)), r1.supply, F, rfl, H⟩ ?_
        · exact ⟨rfl, rfl, rfl, rfl, rfl, trivial⟩
        rintro mk2 _ wl5 ⟨t7_1, l4, F, rfl, H⟩
        have R0 := H.ext
        replace F := ref07_Add_L2_s F
        obtain ⟨mk2, rfl, F⟩ := F
        generalize hrec2 : ref07_Add_L2 a1 r1 mk2 = rec2 at F
        unfold ref07_Add_B2 at F
        refine CW.seq fun K16 hK16 => ?_
        refine CW.seq fun K17 hK17 => ?_
        refine CW.region ?_
        refine LW.pure rfl rfl (RV.move rfl) ?_
        refine LW.pure rfl rfl (RV.fieldAddr Tf25_0 rfl) ?_
        refine LW.pure rfl rfl (RV.load1 Tk22 rfl ((H.blk 5 rfl).cells.off 0) rfl) ?_
        refine LW.pure rfl rfl (RV.len Ts22 rfl) ?_
        refine LW.pure rfl rfl (RV.lss rfl rfl) ?_
        refine LW.nil (hK17 _ _ ?_)
        by_cases hp4 : t7_1 < ((l4.length : Int))
        ·
          replace F := ite_y hp4 F
          have hq4 := dec_t hp4
          refine CW.condT rfl hq4 ?_
          refine CW.skip (hK16 _ _ ?_)
          refine CW.seq fun K18 hK18 => ?_
          refine CW.block ?_
          obtain ⟨x4, hbx4, hx4, F⟩ := ix_some F
          obtain ⟨x5, hbx5, hx5, F⟩ := ix_some F
          obtain ⟨hg3, F⟩ := gd_some F
          obtain ⟨x6, hbx6, hx6, F⟩ := ix_some F
          refine CW.draw [12] (fun _ => True) (.cons 0 1 (.cons 1 1 (.cons 2 1 (.cons 3 1 (.cons 4 1 (.cons 5 1 (.cons 6 1 (.cons 7 1 (.cons 8 1 (.cons 9 1 (.cons 10 1 (.cons 11 1 (.cons 12 0 .nil))))))))))))) mixed (by kernel_rfl) fun w13 E4 => ?_
          replace H := H.grow E4
          replace R0 := H.ext
          refine DW.fix rfl rfl rfl (fun _ EQ => RV.fieldAddr Tf25_0 rfl) ?_
          refine DW.fix rfl rfl rfl (fun _ EQ => RV.load1 Tk22 rfl (((H.grow EQ).blk 5 rfl).cells.off 0) rfl) ?_
          refine DW.fix rfl rfl rfl (fun _ EQ => RV.move rfl) ?_
          refine DW.fix rfl rfl rfl (fun _ EQ => RV.indexAddr Ts22 rfl rfl hbx4 ((H.own 0 rfl).sl.addr_ hx4)) ?_
          refine DW.fix rfl rfl rfl (fun _ EQ => RV.load1 Tk3 rfl (((H.grow EQ).own 0 rfl).sl.at_ hx4) rfl) ?_
          refine DW.fix rfl rfl rfl (fun _ EQ => RV.fieldAddr Tf25_0 rfl) ?_
          refine DW.fix rfl rfl rfl (fun _ EQ => RV.load1 Tk22 rfl (((H.grow EQ).blk 3 rfl).cells.off 0) rfl) ?_
          refine DW.fix rfl rfl rfl (fun _ EQ => RV.move rfl) ?_
          refine DW.fix rfl rfl rfl (fun _ EQ => RV.indexAddr Ts22 rfl rfl hbx5 (h_a1_supply.addr_ hx5)) ?_
          refine DW.fix rfl rfl rfl (fun _ EQ => RV.load1 Tk3 rfl ((h_a1_supply.at_ hx5).ext (R0.trans EQ)) rfl) ?_
          refine DW.fix rfl rfl rfl (fun _ EQ => RV.add rfl rfl hg3) ?_
          refine DW.fix rfl rfl rfl (fun _ EQ => RV.indexAddr Ts22 rfl rfl hbx6 ((H.own 0 rfl).sl.addr_ hx6)) ?_
          refine DW.sole rfl rfl rfl (OW.storeO (enc := encN) (vs := [.int .i64 (x4 + x5)]) 0 (x4 + x5) Tk3 rfl rfl (H.own 0 rfl) (fun _ => rfl) rfl hx6 rfl rfl (by decide) rfl rfl fun w14 M2 O2 => ?_)
          refine ⟨fun h => absurd h (by decide), M2.modx (fun _ _ => trivial), ?_⟩
          replace H : Hp w w14 [.own A13_0_supply c13_0_supply 3 1 (List.map encN ((l4.set (Int.toNat t7_1) (x4 + x5)))), .own A13_0_demand c13_0_demand 3 1 (List.map encN r1.demand), .tab A13_0_cost c13_0_cost 22 hs13_0_cost 3 1 (encM encN r1.cost), .blk b2 25 [.slice A_a1_supply a1.supply.length c_a1_supply, .slice A_a1_demand a1.demand.length c_a1_demand, .slice A_a1_cost a1.cost.length c_a1_cost], .blk b3 25 [.slice none 0 0, .slice none 0 0, .slice none 0 0], .blk b4 25 [.slice A13_0_supply l4.length c13_0_supply, .slice A13_0_demand r1.demand.length c13_0_demand, .slice A13_0_cost r1.cost.length c13_0_cost]] := H.mod 0 rfl M2 O2 (.inl rfl)
          replace R0 := H.ext
          refine DW.nil (hK18 _ _ ?_)
          obtain ⟨hg4, F⟩ := gd_some F
          refine CW.region ?_
          refine LW.pure rfl rfl (RV.move rfl) ?_
          refine LW.pure rfl rfl (RV.add rfl rfl hg4) ?_
          refine LW.pure rfl rfl (RV.assign rfl) ?_
          refine LW.nil ?_
          replace H := H.cast (L' := [.own A13_0_supply c13_0_supply 3 1 (List.map encN ((l4.set (Int.toNat t7_1) (x4 + x5)))), .own A13_0_demand c13_0_demand 3 1 (List.map encN r1.demand), .tab A13_0_cost c13_0_cost 22 hs13_0_cost 3 1 (encM encN r1.cost), .blk b2 25 [.slice A_a1_supply a1.supply.length c_a1_supply, .slice A_a1_demand a1.demand.length c_a1_demand, .slice A_a1_cost a1.cost.length c_a1_cost], .blk b3 25 [.slice none 0 0, .slice none 0 0, .slice none 0 0], .blk b4 25 [.slice A13_0_supply (((l4.set (Int.toNat t7_1) (x4 + x5))).length) c13_0_supply, .slice A13_0_demand r1.demand.length c13_0_demand, .slice A13_0_cost r1.cost.length c13_0_cost]]) (by first | rfl | (simp only [List.length_set]; done) | simp)
          subst hrec2
          refine ⟨mk2, Nat.lt_succ_self _, _, ?_, (t7_1 + 1), ((l4.set (Int.toNat t7_1) (x4 + x5))), F, rfl, H⟩
          exact ⟨rfl, rfl, rfl, rfl, rfl, trivial⟩
        ·
          replace F := ite_n hp4 F
          have hq4 := dec_f hp4
          refine CW.condF rfl hq4 ?_
          refine CW.exit (jK91 _ _ ⟨_, ?_, ⟨l4, F, rfl, H⟩⟩)
          exact ⟨rfl, rfl, rfl, rfl, trivial⟩
  ·
    intro K19 hK19 jK102
    obtain ⟨r3, hr3, F⟩ := bnd_some F
    by_cases hp5 : r3 = 0
    ·
      replace F := ite_y hp5 F
      have hq5 := dec_t hp5
      obtain ⟨r4, hr4, F⟩ := bnd_some F
      by_cases hp6 : r4 = 0
      ·
        replace F := ite_y hp6 F
        have hq6 := dec_t hp6
        by_cases hp7 : ((a0.supply.length : Int)) = ((a1.supply.length : Int))
        ·
          replace F := ite_y hp7 F
          have hq7 := dec_t hp7
          by_cases hp8 : ((a0.demand.length : Int)) = ((a1.demand.length : Int))
          ·
            replace F := ite_y hp8 F
            have hq8 := dec_t hp8
            obtain ⟨r5, hr5, F⟩ := bnd_some F
            refine CW.region ?_
            refine LW.pure rfl rfl (RV.loadA [.slice A_a0_supply a0.supply.length c_a0_supply, .slice A_a0_demand a0.demand.length c_a0_demand, .slice A_a0_cost a0.cost.length c_a0_cost] Tk25 rfl (H.blk 2 rfl).cells rfl rfl) ?_
            refine LW.go rfl rfl (OW.call Tc39 rfl (ref07_Validate_ok (a0 := a0) (h_a0_supply.ext R0) (h_a0_demand.ext R0) (h_a0_cost.ext R0) hr3) ?_)
            rintro _ w15 ⟨rfl, E5⟩
            refine ⟨_, rfl, ?_⟩
            replace H := H.grow E5
            replace R0 := H.ext
            refine LW.pure rfl rfl (RV.nei rfl rfl) ?_
            refine LW.pure rfl rfl (RV.move rfl) ?_
            refine LW.pureYB rfl rfl rfl rfl (not_f hq5) (RV.loadA [.slice A_a1_supply a1.supply.length c_a1_supply, .slice A_a1_demand a1.demand.length c_a1_demand, .slice A_a1_cost a1.cost.length c_a1_cost] Tk25 rfl (H.blk 1 rfl).cells rfl rfl) ?_
            refine LW.yesB rfl rfl rfl rfl (not_f hq5) (OW.call Tc39 rfl (ref07_Validate_ok (a0 := a1) (h_a1_supply.ext R0) (h_a1_demand.ext R0) (h_a1_cost.ext R0) hr4) ?_)
            rintro _ w16 ⟨rfl, E6⟩
            refine ⟨_, rfl, ?_⟩
            replace H := H.grow E6
            replace R0 := H.ext
            refine LW.pureYB rfl rfl rfl rfl (not_f hq5) (RV.nei rfl rfl) ?_
            refine LW.pure rfl rfl (RV.pickFB rfl (not_f hq5) rfl) ?_
            refine LW.pure rfl rfl (RV.move rfl) ?_
            refine LW.pureYB rfl rfl rfl rfl (not_f hq6) (RV.fieldAddr Tf25_0 rfl) ?_
            refine LW.pureYB rfl rfl rfl rfl (not_f hq6) (RV.load1 Tk22 rfl ((H.blk 2 rfl).cells.off 0) rfl) ?_
            refine LW.pureYB rfl rfl rfl rfl (not_f hq6) (RV.len Ts22 rfl) ?_
            refine LW.pureYB rfl rfl rfl rfl (not_f hq6) (RV.fieldAddr Tf25_0 rfl) ?_
            refine LW.pureYB rfl rfl rfl rfl (not_f hq6) (RV.load1 Tk22 rfl ((H.blk 1 rfl).cells.off 0) rfl) ?_
            refine LW.pureYB rfl rfl rfl rfl (not_f hq6) (RV.len Ts22 rfl) ?_
            refine LW.pureYB rfl rfl rfl rfl (not_f hq6) (RV.nei rfl rfl) ?_
            refine LW.pure rfl rfl (RV.pickFB rfl (not_f hq6) rfl) ?_
            refine LW.pure rfl rfl (RV.move rfl) ?_
            refine LW.pureYB rfl rfl rfl rfl (not_f hq7) (RV.fieldAddr Tf25_1 rfl) ?_
            refine LW.pureYB rfl rfl rfl rfl (not_f hq7) (RV.load1 Tk22 rfl ((H.blk 2 rfl).cells.off 1) rfl) ?_
            refine LW.pureYB rfl rfl rfl rfl (not_f hq7) (RV.len Ts22 rfl) ?_
            refine LW.pureYB rfl rfl rfl rfl (not_f hq7) (RV.fieldAddr Tf25_1 rfl) ?_
            refine LW.pureYB rfl rfl rfl rfl (not_f hq7) (RV.load1 Tk22 rfl ((H.blk 1 rfl).cells.off 1) rfl) ?_
            refine LW.pureYB rfl rfl rfl rfl (not_f hq7) (RV.len Ts22 rfl) ?_
            refine LW.pureYB rfl rfl rfl rfl (not_f hq7) (RV.nei rfl rfl) ?_
            refine LW.pure rfl rfl (RV.pickFB rfl (not_f hq7) rfl) ?_
            refine LW.pure rfl rfl (RV.move rfl) ?_
            refine LW.pureYB rfl rfl rfl rfl (not_f hq8) (RV.fieldAddr Tf25_2 rfl) ?_
            refine LW.pureYB rfl rfl rfl rfl (not_f hq8) (RV.load1 Tk23 rfl ((H.blk 2 rfl).cells.off 2) rfl) ?_
            refine LW.pureYB rfl rfl rfl rfl (not_f hq8) (RV.fieldAddr Tf25_2 rfl) ?_
            refine LW.pureYB rfl rfl rfl rfl (not_f hq8) (RV.load1 Tk23 rfl ((H.blk 1 rfl).cells.off 2) rfl) ?_
            refine LW.yesB rfl rfl rfl rfl (not_f hq8) (OW.call Tc33 rfl (ref07_SameTables_ok (a0 := a0.cost) (a1 := a1.cost) (h_a0_cost.ext R0) (h_a1_cost.ext R0) hr5) ?_)
            rintro _ w17 ⟨rfl, E7⟩
            refine ⟨_, rfl, ?_⟩
            replace H := H.grow E7
            replace R0 := H.ext
            refine LW.pureYB rfl rfl rfl rfl (not_f hq8) (RV.not rfl) ?_
            refine LW.pure rfl rfl (RV.pickFB rfl (not_f hq8) rfl) ?_
            replace H := H.pick (L' := [.blk b1 25 [.slice A_a0_supply a0.supply.length c_a0_supply, .slice A_a0_demand a0.demand.length c_a0_demand, .slice A_a0_cost a0.cost.length c_a0_cost], .blk b2 25 [.slice A_a1_supply a1.supply.length c_a1_supply, .slice A_a1_demand a1.demand.length c_a1_demand, .slice A_a1_cost a1.cost.length c_a1_cost], .blk b3 25 [.slice none 0 0, .slice none 0 0, .slice none 0 0]]) [2, 1, 0] (by decide) rfl
            replace R0 := H.ext
            refine LW.nil (jK102 _ _ ⟨_, ?_, ⟨(!r5), F, rfl, H⟩⟩)
            exact ⟨rfl, rfl, rfl, rfl, rfl, trivial⟩
          ·
            replace F := ite_n hp8 F
            have hq8 := dec_f hp8
            refine CW.region ?_
            refine LW.pure rfl rfl (RV.loadA [.slice A_a0_supply a0.supply.length c_a0_supply, .slice A_a0_demand a0.demand.length c_a0_demand, .slice A_a0_cost a0.cost.length c_a0_cost] Tk25 rfl (H.blk 2 rfl).cells rfl rfl) ?_
            refine LW.go rfl rfl (OW.call Tc39 rfl (ref07_Validate_ok (a0 := a0) (h_a0_supply.ext R0) (h_a0_demand.ext R0) (h_a0_cost.ext R0) hr3) ?_)
            rintro _ w18 ⟨rfl, E8⟩
            refine ⟨_, rfl, ?_⟩
            replace H := H.grow E8
            replace R0 := H.ext
            refine LW.pure rfl rfl (RV.nei rfl rfl) ?_
            refine LW.pure rfl rfl (RV.move rfl) ?_
            refine LW.pureYB rfl rfl rfl rfl (not_f hq5) (RV.loadA [.slice A_a1_supply a1.supply.length c_a1_supply, .slice A_a1_demand a1.demand.length c_a1_demand, .slice A_a1_cost a1.cost.length c_a1_cost] Tk25 rfl (H.blk 1 rfl).cells rfl rfl) ?_
            refine LW.yesB rfl rfl rfl rfl (not_f hq5) (OW.call Tc39 rfl (ref07_Validate_ok (a0 := a1) (h_a1_supply.ext R0) (h_a1_demand.ext R0) (h_a1_cost.ext R0) hr4) ?_)
            rintro _ w19 ⟨rfl, E9⟩
            refine ⟨_, rfl, ?_⟩
            replace H := H.grow E9
            replace R0 := H.ext
            refine LW.pureYB rfl rfl rfl rfl (not_f hq5) (RV.nei rfl rfl) ?_
            refine LW.pure rfl rfl (RV.pickFB rfl (not_f hq5) rfl) ?_
            refine LW.pure rfl rfl (RV.move rfl) ?_
            refine LW.pureYB rfl rfl rfl rfl (not_f hq6) (RV.fieldAddr Tf25_0 rfl) ?_
            refine LW.pureYB rfl rfl rfl rfl (not_f hq6) (RV.load1 Tk22 rfl ((H.blk 2 rfl).cells.off 0) rfl) ?_
            refine LW.pureYB rfl rfl rfl rfl (not_f hq6) (RV.len Ts22 rfl) ?_
            refine LW.pureYB rfl rfl rfl rfl (not_f hq6) (RV.fieldAddr Tf25_0 rfl) ?_
            refine LW.pureYB rfl rfl rfl rfl (not_f hq6) (RV.load1 Tk22 rfl ((H.blk 1 rfl).cells.off 0) rfl) ?_
            refine LW.pureYB rfl rfl rfl rfl (not_f hq6) (RV.len Ts22 rfl) ?_
            refine LW.pureYB rfl rfl rfl rfl (not_f hq6) (RV.nei rfl rfl) ?_
            refine LW.pure rfl rfl (RV.pickFB rfl (not_f hq6) rfl) ?_
            refine LW.pure rfl rfl (RV.move rfl) ?_
            refine LW.pureYB rfl rfl rfl rfl (not_f hq7) (RV.fieldAddr Tf25_1 rfl) ?_
            refine LW.pureYB rfl rfl rfl rfl (not_f hq7) (RV.load1 Tk22 rfl ((H.blk 2 rfl).cells.off 1) rfl) ?_
            refine LW.pureYB rfl rfl rfl rfl (not_f hq7) (RV.len Ts22 rfl) ?_
            refine LW.pureYB rfl rfl rfl rfl (not_f hq7) (RV.fieldAddr Tf25_1 rfl) ?_
            refine LW.pureYB rfl rfl rfl rfl (not_f hq7) (RV.load1 Tk22 rfl ((H.blk 1 rfl).cells.off 1) rfl) ?_
            refine LW.pureYB rfl rfl rfl rfl (not_f hq7) (RV.len Ts22 rfl) ?_
            refine LW.pureYB rfl rfl rfl rfl (not_f hq7) (RV.nei rfl rfl) ?_
            refine LW.pure rfl rfl (RV.pickFB rfl (not_f hq7) rfl) ?_
            refine LW.pure rfl rfl (RV.move rfl) ?_
            refine LW.noB rfl rfl rfl rfl (ne_beq (v := true) (not_t hq8) rfl) ?_
            refine LW.noB rfl rfl rfl rfl (ne_beq (v := true) (not_t hq8) rfl) ?_
            refine LW.noB rfl rfl rfl rfl (ne_beq (v := true) (not_t hq8) rfl) ?_
            refine LW.noB rfl rfl rfl rfl (ne_beq (v := true) (not_t hq8) rfl) ?_
            refine LW.noB rfl rfl rfl rfl (ne_beq (v := true) (not_t hq8) rfl) ?_
            refine LW.noB rfl rfl rfl rfl (ne_beq (v := true) (not_t hq8) rfl) ?_
            refine LW.pure rfl rfl (RV.pickTB rfl (not_t hq8) rfl) ?_
            replace H := H.pick (L' := [.blk b1 25 [.slice A_a0_supply a0.supply.length c_a0_supply, .slice A_a0_demand a0.demand.length c_a0_demand, .slice A_a0_cost a0.cost.length c_a0_cost], .blk b2 25 [.slice A_a1_supply a1.supply.length c_a1_supply, .slice A_a1_demand a1.demand.length c_a1_demand, .slice A_a1_cost a1.cost.length c_a1_cost], .blk b3 25 [.slice none 0 0, .slice none 0 0, .slice none 0 0]]) [2, 1, 0] (by decide) rfl
            replace R0 := H.ext
            refine LW.nil (jK102 _ _ ⟨_, ?_, ⟨true, F, rfl, H⟩⟩)
            exact ⟨rfl, rfl, rfl, rfl, rfl, trivial⟩
        ·
          replace F := ite_n hp7 F
          have hq7 := dec_f hp7
          refine CW.region ?_
          refine LW.pure rfl rfl (RV.loadA [.slice A_a0_supply a0.supply.length c_a0_supply, .slice A_a0_demand a0.demand.length c_a0_demand, .slice A_a0_cost a0.cost.length c_a0_cost] Tk25 rfl (H.blk 2 rfl).cells rfl rfl) ?_
          refine LW.go rfl rfl (OW.call Tc39 rfl (ref07_Validate_ok (a0 := a0) (h_a0_supply.ext R0) (h_a0_demand.ext R0) (h_a0_cost.ext R0) hr3) ?_)
          rintro _ w20 ⟨rfl, E10⟩
          refine ⟨_, rfl, ?_⟩
          replace H := H.grow E10
          replace R0 := H.ext
          refine LW.pure rfl rfl (RV.nei rfl rfl) ?_
          refine LW.pure rfl rfl (RV.move rfl) ?_
          refine LW.pureYB rfl rfl rfl rfl (not_f hq5) (RV.loadA [.slice A_a1_supply a1.supply.length c_a1_supply, .slice A_a1_demand a1.demand.length c_a1_demand, .slice A_a1_cost a1.cost.length c_a1_cost] Tk25 rfl (H.blk 1 rfl).cells rfl rfl) ?_
          refine LW.yesB rfl rfl rfl rfl (not_f hq5) (OW.call Tc39 rfl (ref07_Validate_ok (a0 := a1) (h_a1_supply.ext R0) (h_a1_demand.ext R0) (h_a1_cost.ext R0) hr4) ?_)
          rintro _ w21 ⟨rfl, E11⟩
          refine ⟨_, rfl, ?_⟩
          replace H := H.grow E11
          replace R0 := H.ext
          refine LW.pureYB rfl rfl rfl rfl (not_f hq5) (RV.nei rfl rfl) ?_
          refine LW.pure rfl rfl (RV.pickFB rfl (not_f hq5) rfl) ?_
          refine LW.pure rfl rfl (RV.move rfl) ?_
          refine LW.pureYB rfl rfl rfl rfl (not_f hq6) (RV.fieldAddr Tf25_0 rfl) ?_
          refine LW.pureYB rfl rfl rfl rfl (not_f hq6) (RV.load1 Tk22 rfl ((H.blk 2 rfl).cells.off 0) rfl) ?_
          refine LW.pureYB rfl rfl rfl rfl (not_f hq6) (RV.len Ts22 rfl) ?_
          refine LW.pureYB rfl rfl rfl rfl (not_f hq6) (RV.fieldAddr Tf25_0 rfl) ?_
          refine LW.pureYB rfl rfl rfl rfl (not_f hq6) (RV.load1 Tk22 rfl ((H.blk 1 rfl).cells.off 0) rfl) ?_
          refine LW.pureYB rfl rfl rfl rfl (not_f hq6) (RV.len Ts22 rfl) ?_
          refine LW.pureYB rfl rfl rfl rfl (not_f hq6) (RV.nei rfl rfl) ?_
          refine LW.pure rfl rfl (RV.pickFB rfl (not_f hq6) rfl) ?_
          refine LW.pure rfl rfl (RV.move rfl) ?_
          refine LW.noB rfl rfl rfl rfl (ne_beq (v := true) (not_t hq7) rfl) ?_
          refine LW.noB rfl rfl rfl rfl (ne_beq (v := true) (not_t hq7) rfl) ?_
          refine LW.noB rfl rfl rfl rfl (ne_beq (v := true) (not_t hq7) rfl) ?_
          refine LW.noB rfl rfl rfl rfl (ne_beq (v := true) (not_t hq7) rfl) ?_
          refine LW.noB rfl rfl rfl rfl (ne_beq (v := true) (not_t hq7) rfl) ?_
          refine LW.noB rfl rfl rfl rfl (ne_beq (v := true) (not_t hq7) rfl) ?_
          refine LW.noB rfl rfl rfl rfl (ne_beq (v := true) (not_t hq7) rfl) ?_
          refine LW.pure rfl rfl (RV.pickTB rfl (not_t hq7) rfl) ?_
          refine LW.pure rfl rfl (RV.move rfl) ?_
          refine LW.noB rfl rfl rfl rfl (ne_beq (v := true) rfl rfl) ?_
          refine LW.noB rfl rfl rfl rfl (ne_beq (v := true) rfl rfl) ?_
          refine LW.noB rfl rfl rfl rfl (ne_beq (v := true) rfl rfl) ?_
          refine LW.noB rfl rfl rfl rfl (ne_beq (v := true) rfl rfl) ?_
          refine LW.noB rfl rfl rfl rfl (ne_beq (v := true) rfl rfl) ?_
          refine LW.noB rfl rfl rfl rfl (ne_beq (v := true) rfl rfl) ?_
          refine LW.pure rfl rfl (RV.pickTB rfl rfl rfl) ?_
          replace H := H.pick (L' := [.blk b1 25 [.slice A_a0_supply a0.supply.length c_a0_supply, .slice A_a0_demand a0.demand.length c_a0_demand, .slice A_a0_cost a0.cost.length c_a0_cost], .blk b2 25 [.slice A_a1_supply a1.supply.length c_a1_supply, .slice A_a1_demand a1.demand.length c_a1_demand, .slice A_a1_cost a1.cost.length c_a1_cost], .blk b3 25 [.slice none 0 0, .slice none 0 0, .slice none 0 0]]) [2, 1, 0] (by decide) rfl
          replace R0 := H.ext
          refine LW.nil (jK102 _ _ ⟨_, ?_, ⟨true, F, rfl, H⟩⟩)
          exact ⟨rfl, rfl, rfl, rfl, rfl, trivial⟩
      ·
        replace F := ite_n hp6 F
        have hq6 := dec_f hp6
        refine CW.region ?_
        refine LW.pure rfl rfl (RV.loadA [.slice A_a0_supply a0.supply.length c_a0_supply, .slice A_a0_demand a0.demand.length c_a0_demand, .slice A_a0_cost a0.cost.length c_a0_cost] Tk25 rfl (H.blk 2 rfl).cells rfl rfl) ?_
        refine LW.go rfl rfl (OW.call Tc39 rfl (ref07_Validate_ok (a0 := a0) (h_a0_supply.ext R0) (h_a0_demand.ext R0) (h_a0_cost.ext R0) hr3) ?_)
        rintro _ w22 ⟨rfl, E12⟩
        refine ⟨_, rfl, ?_⟩
        replace H := H.grow E12
        replace R0 := H.ext
        refine LW.pure rfl rfl (RV.nei rfl rfl) ?_
        refine LW.pure rfl rfl (RV.move rfl) ?_
        refine LW.pureYB rfl rfl rfl rfl (not_f hq5) (RV.loadA [.slice A_a1_supply a1.supply.length c_a1_supply, .slice A_a1_demand a1.demand.length c_a1_demand, .slice A_a1_cost a1.cost.length c_a1_cost] Tk25 rfl (H.blk 1 rfl).cells rfl rfl) ?_
        refine LW.yesB rfl rfl rfl rfl (not_f hq5) (OW.call Tc39 rfl (ref07_Validate_ok (a0 := a1) (h_a1_supply.ext R0) (h_a1_demand.ext R0) (h_a1_cost.ext R0) hr4) ?_)
        rintro _ w23 ⟨rfl, E13⟩
        refine ⟨_, rfl, ?_⟩
        replace H := H.grow E13
        replace R0 := H.ext
        refine LW.pureYB rfl rfl rfl rfl (not_f hq5) (RV.nei rfl rfl) ?_
        refine LW.pure rfl rfl (RV.pickFB rfl (not_f hq5) rfl) ?_
        refine LW.pure rfl rfl (RV.move rfl) ?_
        refine LW.noB rfl rfl rfl rfl (ne_beq (v := true) (not_t hq6) rfl) ?_
        refine LW.noB rfl rfl rfl rfl (ne_beq (v := true) (not_t hq6) rfl) ?_
        refine LW.noB rfl rfl rfl rfl (ne_beq (v := true) (not_t hq6) rfl) ?_
        refine LW.noB rfl rfl rfl rfl (ne_beq (v := true) (not_t hq6) rfl) ?_
        refine LW.noB rfl rfl rfl rfl (ne_beq (v := true) (not_t hq6) rfl) ?_
        refine LW.noB rfl rfl rfl rfl (ne_beq (v := true) (not_t hq6) rfl) ?_
        refine LW.noB rfl rfl rfl rfl (ne_beq (v := true) (not_t hq6) rfl) ?_
        refine LW.pure rfl rfl (RV.pickTB rfl (not_t hq6) rfl) ?_
        refine LW.pure rfl rfl (RV.move rfl) ?_
        refine LW.noB rfl rfl rfl rfl (ne_beq (v := true) rfl rfl) ?_
        refine LW.noB rfl rfl rfl rfl (ne_beq (v := true) rfl rfl) ?_
        refine LW.noB rfl rfl rfl rfl (ne_beq (v := true) rfl rfl) ?_
        refine LW.noB rfl rfl rfl rfl (ne_beq (v := true) rfl rfl) ?_
        refine LW.noB rfl rfl rfl rfl (ne_beq (v := true) rfl rfl) ?_
        refine LW.noB rfl rfl rfl rfl (ne_beq (v := true) rfl rfl) ?_
        refine LW.noB rfl rfl rfl rfl (ne_beq (v := true) rfl rfl) ?_
        refine LW.pure rfl rfl (RV.pickTB rfl rfl rfl) ?_
        refine LW.pure rfl rfl (RV.move rfl) ?_
        refine LW.noB rfl rfl rfl rfl (ne_beq (v := true) rfl rfl) ?_
        refine LW.noB rfl rfl rfl rfl (ne_beq (v := true) rfl rfl) ?_
        refine LW.noB rfl rfl rfl rfl (ne_beq (v := true) rfl rfl) ?_
        refine LW.noB rfl rfl rfl rfl (ne_beq (v := true) rfl rfl) ?_
        refine LW.noB rfl rfl rfl rfl (ne_beq (v := true) rfl rfl) ?_
        refine LW.noB rfl rfl rfl rfl (ne_beq (v := true) rfl rfl) ?_
        refine LW.pure rfl rfl (RV.pickTB rfl rfl rfl) ?_
        replace H := H.pick (L' := [.blk b1 25 [.slice A_a0_supply a0.supply.length c_a0_supply, .slice A_a0_demand a0.demand.length c_a0_demand, .slice A_a0_cost a0.cost.length c_a0_cost], .blk b2 25 [.slice A_a1_supply a1.supply.length c_a1_supply, .slice A_a1_demand a1.demand.length c_a1_demand, .slice A_a1_cost a1.cost.length c_a1_cost], .blk b3 25 [.slice none 0 0, .slice none 0 0, .slice none 0 0]]) [2, 1, 0] (by decide) rfl
        replace R0 := H.ext
        refine LW.nil (jK102 _ _ ⟨_, ?_, ⟨true, F, rfl, H⟩⟩)
        exact ⟨rfl, rfl, rfl, rfl, rfl, trivial⟩
    ·
      replace F := ite_n hp5 F
      have hq5 := dec_f hp5
      refine CW.region ?_
      refine LW.pure rfl rfl (RV.loadA [.slice A_a0_supply a0.supply.length c_a0_supply, .slice A_a0_demand a0.demand.length c_a0_demand, .slice A_a0_cost a0.cost.length c_a0_cost] Tk25 rfl (H.blk 2 rfl).cells rfl rfl) ?_
      refine LW.go rfl rfl (OW.call Tc39 rfl (ref07_Validate_ok (a0 := a0) (h_a0_supply.ext R0) (h_a0_demand.ext R0) (h_a0_cost.ext R0) hr3) ?_)
      rintro _ w24 ⟨rfl, E14⟩
      refine ⟨_, rfl, ?_⟩
      replace H := H.grow E14
      replace R0 := H.ext
      refine LW.pure rfl rfl (RV.nei rfl rfl) ?_
      refine LW.pure rfl rfl (RV.move rfl) ?_
      refine LW.noB rfl rfl rfl rfl (ne_beq (v := true) (not_t hq5) rfl) ?_
      refine LW.noB rfl rfl rfl rfl (ne_beq (v := true) (not_t hq5) rfl) ?_
      refine LW.noB rfl rfl rfl rfl (ne_beq (v := true) (not_t hq5) rfl) ?_
      refine LW.pure rfl rfl (RV.pickTB rfl (not_t hq5) rfl) ?_
      refine LW.pure rfl rfl (RV.move rfl) ?_
      refine LW.noB rfl rfl rfl rfl (ne_beq (v := true) rfl rfl) ?_
      refine LW.noB rfl rfl rfl rfl (ne_beq (v := true) rfl rfl) ?_
      refine LW.noB rfl rfl rfl rfl (ne_beq (v := true) rfl rfl) ?_
      refine LW.noB rfl rfl rfl rfl (ne_beq (v := true) rfl rfl) ?_
      refine LW.noB rfl rfl rfl rfl (ne_beq (v := true) rfl rfl) ?_
      refine LW.noB rfl rfl rfl rfl (ne_beq (v := true) rfl rfl) ?_
      refine LW.noB rfl rfl rfl rfl (ne_beq (v := true) rfl rfl) ?_
      refine LW.pure rfl rfl (RV.pickTB rfl rfl rfl) ?_
      refine LW.pure rfl rfl (RV.move rfl) ?_
      refine LW.noB rfl rfl rfl rfl (ne_beq (v := true) rfl rfl) ?_
      refine LW.noB rfl rfl rfl rfl (ne_beq (v := true) rfl rfl) ?_
      refine LW.noB rfl rfl rfl rfl (ne_beq (v := true) rfl rfl) ?_
      refine LW.noB rfl rfl rfl rfl (ne_beq (v := true) rfl rfl) ?_
      refine LW.noB rfl rfl rfl rfl (ne_beq (v := true) rfl rfl) ?_
      refine LW.noB rfl rfl rfl rfl (ne_beq (v := true) rfl rfl) ?_
      refine LW.noB rfl rfl rfl rfl (ne_beq (v := true) rfl rfl) ?_
      refine LW.pure rfl rfl (RV.pickTB rfl rfl rfl) ?_
      refine LW.pure rfl rfl (RV.move rfl) ?_
      refine LW.noB rfl rfl rfl rfl (ne_beq (v := true) rfl rfl) ?_
      refine LW.noB rfl rfl rfl rfl (ne_beq (v := true) rfl rfl) ?_
      refine LW.noB rfl rfl rfl rfl (ne_beq (v := true) rfl rfl) ?_
      refine LW.noB rfl rfl rfl rfl (ne_beq (v := true) rfl rfl) ?_
      refine LW.noB rfl rfl rfl rfl (ne_beq (v := true) rfl rfl) ?_
      refine LW.noB rfl rfl rfl rfl (ne_beq (v := true) rfl rfl) ?_
      refine LW.pure rfl rfl (RV.pickTB rfl rfl rfl) ?_
      replace H := H.pick (L' := [.blk b1 25 [.slice A_a0_supply a0.supply.length c_a0_supply, .slice A_a0_demand a0.demand.length c_a0_demand, .slice A_a0_cost a0.cost.length c_a0_cost], .blk b2 25 [.slice A_a1_supply a1.supply.length c_a1_supply, .slice A_a1_demand a1.demand.length c_a1_demand, .slice A_a1_cost a1.cost.length c_a1_cost], .blk b3 25 [.slice none 0 0, .slice none 0 0, .slice none 0 0]]) [2, 1, 0] (by decide) rfl
      replace R0 := H.ext
      refine LW.nil (jK102 _ _ ⟨_, ?_, ⟨true, F, rfl, H⟩⟩)
      exact ⟨rfl, rfl, rfl, rfl, rfl, trivial⟩
end Go.D7

set_option linter.unusedVariables false
set_option linter.unusedSimpArgs false
namespace Go.D7
open Go.Tb Go.Proofs Go.RowKit
theorem Tc45 : callable Try.prog 45 = true := by kernel_rfl
theorem Tc46 : callable Try.prog 46 = true := by kernel_rfl
set_option maxRecDepth 20000 in
set_option maxHeartbeats 1000000 in
theorem law07_BulkAdds_ok {a0 : Trade} {a1 : Trade} {A_a0_supply : Option Addr} {c_a0_supply : Nat} {A_a0_demand : Option Addr} {c_a0_demand : Nat} {A_a0_cost : Option Addr} {c_a0_cost : Nat} {A_a1_supply : Option Addr} {c_a1_supply : Nat} {A_a1_demand : Option Addr} {c_a1_demand : Nat} {A_a1_cost : Option Addr} {c_a1_cost : Nat} {w : World} {res : Bool} (h_a0_supply : Sl w A_a0_supply c_a0_supply 1 (a0.supply.map encN)) (h_a0_demand : Sl w A_a0_demand c_a0_demand 1 (a0.demand.map encN)) (h_a0_cost : Sl2 w A_a0_cost c_a0_cost 1 encN a0.cost) (h_a1_supply : Sl w A_a1_supply c_a1_supply 1 (a1.supply.map encN)) (h_a1_demand : Sl w A_a1_demand c_a1_demand 1 (a1.demand.map encN)) (h_a1_cost : Sl2 w A_a1_cost c_a1_cost 1 encN a1.cost) (F : law07_BulkAdds a0 a1 = some res) : Calls Try.prog 12 #[.agg #[.slice A_a0_supply a0.supply.length c_a0_supply, .slice A_a0_demand a0.demand.length c_a0_demand, .slice A_a0_cost a0.cost.length c_a0_cost], .agg #[.slice A_a1_supply a1.supply.length c_a1_supply, .slice A_a1_demand a1.demand.length c_a1_demand, .slice A_a1_cost a1.cost.length c_a1_cost]] w (Rt w (.bool res)) := by
  refine calls_of_cw (args := [.agg #[.slice A_a0_supply a0.supply.length c_a0_supply, .slice A_a0_demand a0.demand.length c_a0_demand, .slice A_a0_cost a0.cost.length c_a0_cost], .agg #[.slice A_a1_supply a1.supply.length c_a1_supply, .slice A_a1_demand a1.demand.length c_a1_demand, .slice A_a1_cost a1.cost.length c_a1_cost]]) Try.func12 rfl rfl rfl rfl ?_
  have H := Hp.start w
  have R0 := H.ext
  unfold law07_BulkAdds at F
  refine CW.seq fun K1 hK1 => ?_
  refine CW.region ?_
  refine LW.go rfl rfl (OW.box rfl fun b1 w1 N1 => ?_)
  replace H := H.new N1 N1.blk
  replace R0 := H.ext
  refine LW.go rfl rfl (OW.box rfl fun b2 w2 N2 => ?_)
  replace H := H.new N2 N2.blk
  replace R0 := H.ext
  refine LW.pure rfl rfl (RV.assign rfl) ?_
  refine LW.nil (hK1 _ _ ?_)
  refine CW.seq fun K2 hK2 => ?_
  refine CW.seqJ (fun ρ wl1 => (∃ (t20_1 : Bool), law07_BulkAdds_k2 a0 a1 t20_1 = some res ∧ ρ = [(2, .pointer (some (⟨b1, 0, none⟩))), (3, .pointer (some (⟨b2, 0, none⟩))), (4, .bool false), (20, .bool t20_1)] ∧ Hp w wl1 [.blk b1 25 [.slice A_a0_supply a0.supply.length c_a0_supply, .slice A_a0_demand a0.demand.length c_a0_demand, .slice A_a0_cost a0.cost.length c_a0_cost], .blk b2 25 [.slice A_a1_supply a1.supply.length c_a1_supply, .slice A_a1_demand a1.demand.length c_a1_demand, .slice A_a1_cost a1.cost.length c_a1_cost]])) ?_ ?_
  ·
    rintro _ wl1 ⟨t20_1, F, rfl, H⟩
    have R0 := H.ext
    unfold law07_BulkAdds_k2 at F
    by_cases hp1 : t20_1 = true
    ·
      replace F := ite_y hp1 F
      have hq1 : t20_1 = true := hp1
      refine CW.condT rfl hq1 ?_
      refine CW.seq fun K3 hK3 => ?_
      obtain ⟨r7, hr7, F⟩ := bnd_some F
      refine CW.region ?_
      refine LW.go rfl rfl (OW.call Tc18 rfl (law07_sane_ok hr7) ?_)
      rintro _ w3 ⟨rfl, E1⟩
      refine ⟨_, rfl, ?_⟩
      replace H := H.grow E1
      replace R0 := H.ext
      refine LW.pure rfl rfl (RV.assign rfl) ?_
      refine LW.nil (hK3 _ _ ?_)
      refine CW.ret ?_
      obtain rfl := Option.some.inj F
      refine ⟨_, (ResOK.one rfl), ?_⟩
      refine ⟨(by first | rfl | simp), R0⟩
    ·
      replace F := ite_n hp1 F
      have hq1 : t20_1 = false := raw_f hp1
      refine CW.condF rfl hq1 ?_
      refine CW.skip (hK2 _ _ ?_)
      refine CW.seq fun K4 hK4 => ?_
      obtain ⟨r1, hr1, F⟩ := bnd_some F
      refine CW.region ?_
      refine LW.pure rfl rfl (RV.loadA [.slice A_a0_supply a0.supply.length c_a0_supply, .slice A_a0_demand a0.demand.length c_a0_demand, .slice A_a0_cost a0.cost.length c_a0_cost] Tk25 rfl (H.blk 0 rfl).cells rfl rfl) ?_
      refine LW.pure rfl rfl (RV.loadA [.slice A_a1_supply a1.supply.length c_a1_supply, .slice A_a1_demand a1.demand.length c_a1_demand, .slice A_a1_cost a1.cost.length c_a1_cost] Tk25 rfl (H.blk 1 rfl).cells rfl rfl) ?_
      refine LW.go rfl rfl (OW.call Tc45 rfl (bulk_Add_ok (a0 := a0) (a1 := a1) (h_a0_supply.ext R0) (h_a0_demand.ext R0) (h_a0_cost.ext R0) (h_a1_supply.ext R0) (h_a1_demand.ext R0) (h_a1_cost.ext R0) hr1) ?_)
      rintro _ w4 ⟨A20_0_supply, c20_0_supply, A20_0_demand, c20_0_demand, A20_0_cost, c20_0_cost, hs20_0_cost, rfl, E2⟩
      refine ⟨_, rfl, ?_⟩
      replace H : Hp w w4 [.own A20_0_supply c20_0_supply 3 1 (List.map encN r1.1.supply), .own A20_0_demand c20_0_demand 3 1 (List.map encN r1.1.demand), .tab A20_0_cost c20_0_cost 22 hs20_0_cost 3 1 (encM encN r1.1.cost), .blk b1 25 [.slice A_a0_supply a0.supply.length c_a0_supply, .slice A_a0_demand a0.demand.length c_a0_demand, .slice A_a0_cost a0.cost.length c_a0_cost], .blk b2 25 [.slice A_a1_supply a1.supply.length c_a1_supply, .slice A_a1_demand a1.demand.length c_a1_demand, .slice A_a1_cost a1.cost.length c_a1_cost]] := H.append E2
      replace R0 := H.ext
      refine LW.pure rfl rfl (RV.move rfl) ?_
      refine LW.pure rfl rfl (RV.extract rfl rfl) ?_
      refine LW.pure rfl rfl (RV.extract rfl rfl) ?_
      refine LW.go rfl rfl (OW.alloc Tz25 fun b3 w5 N3 => ?_)
      replace H := H.new N3 N3.blk
      replace R0 := H.ext
      refine LW.go rfl rfl (OW.store Tk25 rfl rfl (H.blk 0 rfl) (off := 0) (vs := [.slice A20_0_supply r1.1.supply.length c20_0_supply, .slice A20_0_demand r1.1.demand.length c20_0_demand, .slice A20_0_cost r1.1.cost.length c20_0_cost]) rfl rfl rfl rfl rfl fun w6 S1 => ?_)
      replace H : Hp w w6 [.blk b3 25 [.slice A20_0_supply r1.1.supply.length c20_0_supply, .slice A20_0_demand r1.1.demand.length c20_0_demand, .slice A20_0_cost r1.1.cost.length c20_0_cost], .own A20_0_supply c20_0_supply 3 1 (List.map encN r1.1.supply), .own A20_0_demand c20_0_demand 3 1 (List.map encN r1.1.demand), .tab A20_0_cost c20_0_cost 22 hs20_0_cost 3 1 (encM encN r1.1.cost), .blk b1 25 [.slice A_a0_supply a0.supply.length c_a0_supply, .slice A_a0_demand a0.demand.length c_a0_demand, .slice A_a0_cost a0.cost.length c_a0_cost], .blk b2 25 [.slice A_a1_supply a1.supply.length c_a1_supply, .slice A_a1_demand a1.demand.length c_a1_demand, .slice A_a1_cost a1.cost.length c_a1_cost]] := H.stored 0 rfl S1
      replace R0 := H.ext
      refine LW.pure rfl rfl (RV.assign rfl) ?_
      refine LW.nil (hK4 _ _ ?_)
      refine CW.seq fun K5 hK5 => ?_
      obtain ⟨r8, hr8, F⟩ := bnd_some F
      refine CW.region ?_
      refine LW.pure rfl rfl (RV.loadA [.slice A_a0_supply a0.supply.length c_a0_supply, .slice A_a0_demand a0.demand.length c_a0_demand, .slice A_a0_cost a0.cost.length c_a0_cost] Tk25 rfl (H.blk 4 rfl).cells rfl rfl) ?_
      refine LW.pure rfl rfl (RV.loadA [.slice A_a1_supply a1.supply.length c_a1_supply, .slice A_a1_demand a1.demand.length c_a1_demand, .slice A_a1_cost a1.cost.length c_a1_cost] Tk25 rfl (H.blk 5 rfl).cells rfl rfl) ?_
      refine LW.go rfl rfl (OW.call Tc46 rfl (ref07_Add_ok (a0 := a0) (a1 := a1) (h_a0_supply.ext R0) (h_a0_demand.ext R0) (h_a0_cost.ext R0) (h_a1_supply.ext R0) (h_a1_demand.ext R0) (h_a1_cost.ext R0) hr8) ?_)
      rintro _ w7 ⟨A22_0_supply, c22_0_supply, A22_0_demand, c22_0_demand, A22_0_cost, c22_0_cost, hs22_0_cost, rfl, E3⟩
      refine ⟨_, rfl, ?_⟩
      replace H : Hp w w7 [.own A22_0_supply c22_0_supply 3 1 (List.map encN r8.1.supply), .own A22_0_demand c22_0_demand 3 1 (List.map encN r8.1.demand), .tab A22_0_cost c22_0_cost 22 hs22_0_cost 3 1 (encM encN r8.1.cost), .blk b3 25 [.slice A20_0_supply r1.1.supply.length c20_0_supply, .slice A20_0_demand r1.1.demand.length c20_0_demand, .slice A20_0_cost r1.1.cost.length c20_0_cost], .own A20_0_supply c20_0_supply 3 1 (List.map encN r1.1.supply), .own A20_0_demand c20_0_demand 3 1 (List.map encN r1.1.demand), .tab A20_0_cost c20_0_cost 22 hs20_0_cost 3 1 (encM encN r1.1.cost), .blk b1 25 [.slice A_a0_supply a0.supply.length c_a0_supply, .slice A_a0_demand a0.demand.length c_a0_demand, .slice A_a0_cost a0.cost.length c_a0_cost], .blk b2 25 [.slice A_a1_supply a1.supply.length c_a1_supply, .slice A_a1_demand a1.demand.length c_a1_demand, .slice A_a1_cost a1.cost.length c_a1_cost]] := H.append E3
      replace R0 := H.ext
      refine LW.pure rfl rfl (RV.move rfl) ?_
      refine LW.pure rfl rfl (RV.extract rfl rfl) ?_
      refine LW.pure rfl rfl (RV.extract rfl rfl) ?_
      refine LW.go rfl rfl (OW.alloc Tz25 fun b4 w8 N4 => ?_)
      replace H := H.new N4 N4.blk
      replace R0 := H.ext
      refine LW.go rfl rfl (OW.store Tk25 rfl rfl (H.blk 0 rfl) (off := 0) (vs := [.slice A22_0_supply r8.1.supply.length c22_0_supply, .slice A22_0_demand r8.1.demand.length c22_0_demand, .slice A22_0_cost r8.1.cost.length c22_0_cost]) rfl rfl rfl rfl rfl fun w9 S2 => ?_)
      replace H : Hp w w9 [.blk b4 25 [.slice A22_0_supply r8.1.supply.length c22_0_supply, .slice A22_0_demand r8.1.demand.length c22_0_demand, .slice A22_0_cost r8.1.cost.length c22_0_cost], .own A22_0_supply c22_0_supply 3 1 (List.map encN r8.1.supply), .own A22_0_demand c22_0_demand 3 1 (List.map encN r8.1.demand), .tab A22_0_cost c22_0_cost 22 hs22_0_cost 3 1 (encM encN r8.1.cost), .blk b3 25 [.slice A20_0_supply r1.1.supply.length c20_0_supply, .slice A20_0_demand r1.1.demand.length c20_0_demand, .slice A20_0_cost r1.1.cost.length c20_0_cost], .own A20_0_supply c20_0_supply 3 1 (List.map encN r1.1.supply), .own A20_0_demand c20_0_demand 3 1 (List.map encN r1.1.demand), .tab A20_0_cost c20_0_cost 22 hs20_0_cost 3 1 (encM encN r1.1.cost), .blk b1 25 [.slice A_a0_supply a0.supply.length c_a0_supply, .slice A_a0_demand a0.demand.length c_a0_demand, .slice A_a0_cost a0.cost.length c_a0_cost], .blk b2 25 [.slice A_a1_supply a1.supply.length c_a1_supply, .slice A_a1_demand a1.demand.length c_a1_demand, .slice A_a1_cost a1.cost.length c_a1_cost]] := H.stored 0 rfl S2
      replace R0 := H.ext
      refine LW.pure rfl rfl (RV.assign rfl) ?_
      refine LW.nil (hK5 _ _ ?_)
      refine CW.seq fun K6 hK6 => ?_
      refine CW.seqJ (fun ρ wl2 => (∃ (t42_1 : Bool), law07_BulkAdds_k1 a0 a1 r1 t42_1 = some res ∧ ρ = [(2, .pointer (some (⟨b1, 0, none⟩))), (3, .pointer (some (⟨b2, 0, none⟩))), (4, .bool false), (5, .pointer (some (⟨b3, 0, none⟩))), (6, .int .i64 r1.2), (42, .bool t42_1)] ∧ Hp w wl2 [.own A20_0_supply c20_0_supply 3 1 (List.map encN r1.1.supply), .own A20_0_demand c20_0_demand 3 1 (List.map encN r1.1.demand), .tab A20_0_cost c20_0_cost 22 hs20_0_cost 3 1 (encM encN r1.1.cost), .blk b1 25 [.slice A_a0_supply a0.supply.length c_a0_supply, .slice A_a0_demand a0.demand.length c_a0_demand, .slice A_a0_cost a0.cost.length c_a0_cost], .blk b2 25 [.slice A_a1_supply a1.supply.length c_a1_supply, .slice A_a1_demand a1.demand.length c_a1_demand, .slice A_a1_cost a1.cost.length c_a1_cost], .blk b3 25 [.slice A20_0_supply r1.1.supply.length c20_0_supply, .slice A20_0_demand r1.1.demand.length c20_0_demand, .slice A20_0_cost r1.1.cost.length c20_0_cost]])) ?_ ?_
      ·
        rintro _ wl2 ⟨t42_1, F, rfl, H⟩
        have R0 := H.ext
        unfold law07_BulkAdds_k1 at F
        by_cases hp2 : t42_1 = true
        ·
          replace F := ite_y hp2 F
          have hq2 : t42_1 = true := hp2
          refine CW.condT rfl hq2 ?_
          refine CW.seq fun K7 hK7 => ?_
          refine CW.region ?_
          refine LW.pure rfl rfl (RV.assign rfl) ?_
          refine LW.nil (hK7 _ _ ?_)
          refine CW.ret ?_
          obtain rfl := Option.some.inj F
          refine ⟨_, (ResOK.one rfl), ?_⟩
          refine ⟨(by first | rfl | simp), R0⟩
        ·
          replace F := ite_n hp2 F
          have hq2 : t42_1 = false := raw_f hp2
          refine CW.condF rfl hq2 ?_
          refine CW.skip (hK6 _ _ ?_)
          refine CW.seq fun K8 hK8 => ?_
          refine CW.seq fun K9 hK9 => ?_
          refine CW.region ?_
          refine LW.pure rfl rfl (RV.move rfl) ?_
          refine LW.pure rfl rfl (RV.nei rfl rfl) ?_
          refine LW.nil (hK9 _ _ ?_)
          by_cases hp3 : r1.2 = 0
          ·
            replace F := ite_y hp3 F
            have hq3 := dec_t hp3
            refine CW.condF rfl (not_f hq3) ?_
            refine CW.skip (hK8 _ _ ?_)
            refine CW.seq fun K10 hK10 => ?_
            obtain ⟨r2, hr2, F⟩ := bnd_some F
            refine CW.region ?_
            refine LW.pure rfl rfl (RV.loadA [.slice A20_0_supply r1.1.supply.length c20_0_supply, .slice A20_0_demand r1.1.demand.length c20_0_demand, .slice A20_0_cost r1.1.cost.length c20_0_cost] Tk25 rfl (H.blk 5 rfl).cells rfl rfl) ?_
            refine LW.go rfl rfl (OW.call Tc21 rfl (bulk_Least_ok (a0 := r1.1) (H.own 0 rfl).sl (H.own 1 rfl).sl (H.tab 2 rfl).sl2 hr2) ?_)
            rintro _ w10 ⟨rfl, E4⟩
            refine ⟨_, rfl, ?_⟩
            replace H := H.grow E4
            replace R0 := H.ext
            refine LW.pure rfl rfl (RV.move rfl) ?_
            refine LW.pure rfl rfl (RV.extract rfl rfl) ?_
            refine LW.pure rfl rfl (RV.extract rfl rfl) ?_
            refine LW.pure rfl rfl (RV.assign rfl) ?_
            refine LW.pure rfl rfl (RV.assign rfl) ?_
            refine LW.nil (hK10 _ _ ?_)
            refine CW.seq fun K11 hK11 => ?_
            obtain ⟨r3, hr3, F⟩ := bnd_some F
            refine CW.region ?_
            refine LW.pure rfl rfl (RV.loadA [.slice A_a0_supply a0.supply.length c_a0_supply, .slice A_a0_demand a0.demand.length c_a0_demand, .slice A_a0_cost a0.cost.length c_a0_cost] Tk25 rfl (H.blk 3 rfl).cells rfl rfl) ?_
            refine LW.go rfl rfl (OW.call Tc21 rfl (bulk_Least_ok (a0 := a0) (h_a0_supply.ext R0) (h_a0_demand.ext R0) (h_a0_cost.ext R0) hr3) ?_)
            rintro _ w11 ⟨rfl, E5⟩
            refine ⟨_, rfl, ?_⟩
            replace H := H.grow E5
            replace R0 := H.ext
            refine LW.pure rfl rfl (RV.move rfl) ?_
            refine LW.pure rfl rfl (RV.extract rfl rfl) ?_
            refine LW.pure rfl rfl (RV.extract rfl rfl) ?_
            refine LW.pure rfl rfl (RV.assign rfl) ?_
            refine LW.pure rfl rfl (RV.assign rfl) ?_
            refine LW.nil (hK11 _ _ ?_)
            refine CW.seq fun K12 hK12 => ?_
            obtain ⟨r4, hr4, F⟩ := bnd_some F
            refine CW.region ?_
            refine LW.pure rfl rfl (RV.loadA [.slice A_a1_supply a1.supply.length c_a1_supply, .slice A_a1_demand a1.demand.length c_a1_demand, .slice A_a1_cost a1.cost.length c_a1_cost] Tk25 rfl (H.blk 4 rfl).cells rfl rfl) ?_
            refine LW.go rfl rfl (OW.call Tc21 rfl (bulk_Least_ok (a0 := a1) (h_a1_supply.ext R0) (h_a1_demand.ext R0) (h_a1_cost.ext R0) hr4) ?_)
            rintro _ w12 ⟨rfl, E6⟩
            refine ⟨_, rfl, ?_⟩
            replace H := H.grow E6
            replace R0 := H.ext
            refine LW.pure rfl rfl (RV.move rfl) ?_
            refine LW.pure rfl rfl (RV.extract rfl rfl) ?_
            refine LW.pure rfl rfl (RV.extract rfl rfl) ?_
            refine LW.pure rfl rfl (RV.assign rfl) ?_
            refine LW.pure rfl rfl (RV.assign rfl) ?_
            refine LW.nil (hK12 _ _ ?_)
            refine CW.seq fun K13 hK13 => ?_
            by_cases hp4 : r2.2 = 0
            ·
              replace F := ite_y hp4 F
              have hq4 := dec_t hp4
              by_cases hp5 : r3.2 = 0
              ·
                replace F := ite_y hp5 F
                have hq5 := dec_t hp5
                by_cases hp6 : r4.2 = 0
                ·
                  replace F := ite_y hp6 F
                  have hq6 := dec_t hp6
                  obtain ⟨hg1, F⟩ := gd_some F
                  by_cases hp7 : r2.1 ≤ (r3.1 + r4.1)
                  ·
                    replace F := ite_y hp7 F
                    have hq7 := dec_t hp7
                    obtain ⟨r5, hr5, F⟩ := bnd_some F
                    refine CW.region ?_
                    refine LW.pure rfl rfl (RV.move rfl) ?_
                    refine LW.pure rfl rfl (RV.eqi rfl rfl) ?_
                    refine LW.pure rfl rfl (RV.move rfl) ?_
                    refine LW.pureYB rfl rfl rfl rfl hq4 (RV.move rfl) ?_
                    refine LW.pureYB rfl rfl rfl rfl hq4 (RV.eqi rfl rfl) ?_
                    refine LW.pure rfl rfl (RV.pickTB rfl hq4 rfl) ?_
                    refine LW.pure rfl rfl (RV.move rfl) ?_
                    refine LW.pureYB rfl rfl rfl rfl hq5 (RV.move rfl) ?_
                    refine LW.pureYB rfl rfl rfl rfl hq5 (RV.eqi rfl rfl) ?_
                    refine LW.pure rfl rfl (RV.pickTB rfl hq5 rfl) ?_
                    refine LW.pure rfl rfl (RV.move rfl) ?_
                    refine LW.pureYB rfl rfl rfl rfl hq6 (RV.move rfl) ?_
                    refine LW.pureYB rfl rfl rfl rfl hq6 (RV.move rfl) ?_
                    refine LW.pureYB rfl rfl rfl rfl hq6 (RV.move rfl) ?_
                    refine LW.pureYB rfl rfl rfl rfl hq6 (RV.add rfl rfl hg1) ?_
                    refine LW.pureYB rfl rfl rfl rfl hq6 (RV.leq rfl rfl) ?_
                    refine LW.pure rfl rfl (RV.pickTB rfl hq6 rfl) ?_
                    refine LW.pure rfl rfl (RV.move rfl) ?_
                    refine LW.yesB rfl rfl rfl rfl hq7 (OW.call Tc18 rfl (law07_sane_ok hr5) ?_)
                    rintro _ w13 ⟨rfl, E7⟩
                    refine ⟨_, rfl, ?_⟩
                    replace H := H.grow E7
                    replace R0 := H.ext
                    refine LW.pure rfl rfl (RV.pickTB rfl hq7 rfl) ?_
                    refine LW.pure rfl rfl (RV.assign rfl) ?_
                    refine LW.nil (hK13 _ _ ?_)
                    refine CW.ret ?_
                    obtain rfl := Option.some.inj F
                    refine ⟨_, (ResOK.one rfl), ?_⟩
                    refine ⟨(by first | rfl | simp), R0⟩
                  ·
                    replace F := ite_n hp7 F
                    have hq7 := dec_f hp7
                    refine CW.region ?_
                    refine LW.pure rfl rfl (RV.move rfl) ?_
                    refine LW.pure rfl rfl (RV.eqi rfl rfl) ?_
                    refine LW.pure rfl rfl (RV.move rfl) ?_
                    refine LW.pureYB rfl rfl rfl rfl hq4 (RV.move rfl) ?_
                    refine LW.pureYB rfl rfl rfl rfl hq4 (RV.eqi rfl rfl) ?_
                    refine LW.pure rfl rfl (RV.pickTB rfl hq4 rfl) ?_
                    refine LW.pure rfl rfl (RV.move rfl) ?_
                    refine LW.pureYB rfl rfl rfl rfl hq5 (RV.move rfl) ?_
                    refine LW.pureYB rfl rfl rfl rfl hq5 (RV.eqi rfl rfl) ?_
                    refine LW.pure rfl rfl (RV.pickTB rfl hq5 rfl) ?_
                    refine LW.pure rfl rfl (RV.move rfl) ?_
                    refine LW.pureYB rfl rfl rfl rfl hq6 (RV.move rfl) ?_
                    refine LW.pureYB rfl rfl rfl rfl hq6 (RV.move rfl) ?_
                    refine LW.pureYB rfl rfl rfl rfl hq6 (RV.move rfl) ?_
                    refine LW.pureYB rfl rfl rfl rfl hq6 (RV.add rfl rfl hg1) ?_
                    refine LW.pureYB rfl rfl rfl rfl hq6 (RV.leq rfl rfl) ?_
                    refine LW.pure rfl rfl (RV.pickTB rfl hq6 rfl) ?_
                    refine LW.pure rfl rfl (RV.move rfl) ?_
                    refine LW.noB rfl rfl rfl rfl (ne_beq (v := false) hq7 rfl) ?_
                    refine LW.pure rfl rfl (RV.pickFB rfl hq7 rfl) ?_
                    refine LW.pure rfl rfl (RV.assign rfl) ?_
                    refine LW.nil (hK13 _ _ ?_)
                    refine CW.ret ?_
                    obtain rfl := Option.some.inj F
                    refine ⟨_, (ResOK.one rfl), ?_⟩
                    refine ⟨(by first | rfl | simp), R0⟩
                ·
                  replace F := ite_n hp6 F
                  have hq6 := dec_f hp6
                  refine CW.region ?_
                  refine LW.pure rfl rfl (RV.move rfl) ?_
                  refine LW.pure rfl rfl (RV.eqi rfl rfl) ?_
                  refine LW.pure rfl rfl (RV.move rfl) ?_
                  refine LW.pureYB rfl rfl rfl rfl hq4 (RV.move rfl) ?_
                  refine LW.pureYB rfl rfl rfl rfl hq4 (RV.eqi rfl rfl) ?_
                  refine LW.pure rfl rfl (RV.pickTB rfl hq4 rfl) ?_
                  refine LW.pure rfl rfl (RV.move rfl) ?_
                  refine LW.pureYB rfl rfl rfl rfl hq5 (RV.move rfl) ?_
                  refine LW.pureYB rfl rfl rfl rfl hq5 (RV.eqi rfl rfl) ?_
                  refine LW.pure rfl rfl (RV.pickTB rfl hq5 rfl) ?_
                  refine LW.pure rfl rfl (RV.move rfl) ?_
                  refine LW.noB rfl rfl rfl rfl (ne_beq (v := false) hq6 rfl) ?_
                  refine LW.noB rfl rfl rfl rfl (ne_beq (v := false) hq6 rfl) ?_
                  refine LW.noB rfl rfl rfl rfl (ne_beq (v := false) hq6 rfl) ?_
                  refine LW.noB rfl rfl rfl rfl (ne_beq (v := false) hq6 rfl) ?_
                  refine LW.noB rfl rfl rfl rfl (ne_beq (v := false) hq6 rfl) ?_
                  refine LW.pure rfl rfl (RV.pickFB rfl hq6 rfl) ?_
                  refine LW.pure rfl rfl (RV.move rfl) ?_
                  refine LW.noB rfl rfl rfl rfl (ne_beq (v := false) rfl rfl) ?_
                  refine LW.pure rfl rfl (RV.pickFB rfl rfl rfl) ?_
                  refine LW.pure rfl rfl (RV.assign rfl) ?_
                  refine LW.nil (hK13 _ _ ?_)
                  refine CW.ret ?_
                  obtain rfl := Option.some.inj F
                  refine ⟨_, (ResOK.one rfl), ?_⟩
                  refine ⟨(by first | rfl | simp), R0⟩
              ·
                replace F := ite_n hp5 F
                have hq5 := dec_f hp5
                refine CW.region ?_
                refine LW.pure rfl rfl (RV.move rfl) ?_
                refine LW.pure rfl rfl (RV.eqi rfl rfl) ?_
                refine LW.pure rfl rfl (RV.move rfl) ?_
                refine LW.pureYB rfl rfl rfl rfl hq4 (RV.move rfl) ?_
                refine LW.pureYB rfl rfl rfl rfl hq4 (RV.eqi rfl rfl) ?_
                refine LW.pure rfl rfl (RV.pickTB rfl hq4 rfl) ?_
                refine LW.pure rfl rfl (RV.move rfl) ?_
                refine LW.noB rfl rfl rfl rfl (ne_beq (v := false) hq5 rfl) ?_
                refine LW.noB rfl rfl rfl rfl (ne_beq (v := false) hq5 rfl) ?_
                refine LW.pure rfl rfl (RV.pickFB rfl hq5 rfl) ?_
                refine LW.pure rfl rfl (RV.move rfl) ?_
                refine LW.noB rfl rfl rfl rfl (ne_beq (v := false) rfl rfl) ?_
                refine LW.noB rfl rfl rfl rfl (ne_beq (v := false) rfl rfl) ?_
                refine LW.noB rfl rfl rfl rfl (ne_beq (v := false) rfl rfl) ?_
                refine LW.noB rfl rfl rfl rfl (ne_beq (v := false) rfl rfl) ?_
                refine LW.noB rfl rfl rfl rfl (ne_beq (v := false) rfl rfl) ?_
                refine LW.pure rfl rfl (RV.pickFB rfl rfl rfl) ?_
                refine LW.pure rfl rfl (RV.move rfl) ?_
                refine LW.noB rfl rfl rfl rfl (ne_beq (v := false) rfl rfl) ?_
                refine LW.pure rfl rfl (RV.pickFB rfl rfl rfl) ?_
                refine LW.pure rfl rfl (RV.assign rfl) ?_
                refine LW.nil (hK13 _ _ ?_)
                refine CW.ret ?_
                obtain rfl := Option.some.inj F
                refine ⟨_, (ResOK.one rfl), ?_⟩
                refine ⟨(by first | rfl | simp), R0⟩
            ·
              replace F := ite_n hp4 F
              have hq4 := dec_f hp4
              refine CW.region ?_
              refine LW.pure rfl rfl (RV.move rfl) ?_
              refine LW.pure rfl rfl (RV.eqi rfl rfl) ?_
              refine LW.pure rfl rfl (RV.move rfl) ?_
              refine LW.noB rfl rfl rfl rfl (ne_beq (v := false) hq4 rfl) ?_
              refine LW.noB rfl rfl rfl rfl (ne_beq (v := false) hq4 rfl) ?_
              refine LW.pure rfl rfl (RV.pickFB rfl hq4 rfl) ?_
              refine LW.pure rfl rfl (RV.move rfl) ?_
              refine LW.noB rfl rfl rfl rfl (ne_beq (v := false) rfl rfl) ?_
              refine LW.noB rfl rfl rfl rfl (ne_beq (v := false) rfl rfl) ?_
              refine LW.pure rfl rfl (RV.pickFB rfl rfl rfl) ?_
              refine LW.pure rfl rfl (RV.move rfl) ?_
              refine LW.noB rfl rfl rfl rfl (ne_beq (v := false) rfl rfl) ?_
              refine LW.noB rfl rfl rfl rfl (ne_beq (v := false) rfl rfl) ?_
              refine LW.noB rfl rfl rfl rfl (ne_beq (v := false) rfl rfl) ?_
              refine LW.noB rfl rfl rfl rfl (ne_beq (v := false) rfl rfl) ?_
              refine LW.noB rfl rfl rfl rfl (ne_beq (v := false) rfl rfl) ?_
              refine LW.pure rfl rfl (RV.pickFB rfl rfl rfl) ?_
              refine LW.pure rfl rfl (RV.move rfl) ?_
              refine LW.noB rfl rfl rfl rfl (ne_beq (v := false) rfl rfl) ?_
              refine LW.pure rfl rfl (RV.pickFB rfl rfl rfl) ?_
              refine LW.pure rfl rfl (RV.assign rfl) ?_
              refine LW.nil (hK13 _ _ ?_)
              refine CW.ret ?_
              obtain rfl := Option.some.inj F
              refine ⟨_, (ResOK.one rfl), ?_⟩
              refine ⟨(by first | rfl | simp), R0⟩
          ·
            replace F := ite_n hp3 F
            have hq3 := dec_f hp3
            refine CW.condT rfl (not_t hq3) ?_
            refine CW.seq fun K14 hK14 => ?_
            obtain ⟨r6, hr6, F⟩ := bnd_some F
            refine CW.region ?_
            refine LW.go rfl rfl (OW.call Tc18 rfl (law07_sane_ok hr6) ?_)
            rintro _ w14 ⟨rfl, E8⟩
            refine ⟨_, rfl, ?_⟩
            replace H := H.grow E8
            replace R0 := H.ext
            refine LW.pure rfl rfl (RV.assign rfl) ?_
            refine LW.nil (hK14 _ _ ?_)
            refine CW.ret ?_
            obtain rfl := Option.some.inj F
            refine ⟨_, (ResOK.one rfl), ?_⟩
            refine ⟨(by first | rfl | simp), R0⟩
      ·
        intro K15 hK15 jK31
        obtain ⟨r9, hr9, F⟩ := bnd_some F
        by_cases hp8 : r9 = true
        ·
          replace F := ite_y hp8 F
          have hq8 : r9 = true := hp8
          refine CW.region ?_
          refine LW.pure rfl rfl (RV.loadA [.slice A20_0_supply r1.1.supply.length c20_0_supply, .slice A20_0_demand r1.1.demand.length c20_0_demand, .slice A20_0_cost r1.1.cost.length c20_0_cost] Tk25 rfl (H.blk 4 rfl).cells rfl rfl) ?_
          refine LW.pure rfl rfl (RV.loadA [.slice A22_0_supply r8.1.supply.length c22_0_supply, .slice A22_0_demand r8.1.demand.length c22_0_demand, .slice A22_0_cost r8.1.cost.length c22_0_cost] Tk25 rfl (H.blk 0 rfl).cells rfl rfl) ?_
          refine LW.go rfl rfl (OW.call Tc30 rfl (ref07_Same_ok (a0 := r1.1) (a1 := r8.1) (H.own 5 rfl).sl (H.own 6 rfl).sl (H.tab 7 rfl).sl2 (H.own 1 rfl).sl (H.own 2 rfl).sl (H.tab 3 rfl).sl2 hr9) ?_)
          rintro _ w15 ⟨rfl, E9⟩
          refine ⟨_, rfl, ?_⟩
          replace H := H.grow E9
          replace R0 := H.ext
          refine LW.pure rfl rfl (RV.not rfl) ?_
          refine LW.pure rfl rfl (RV.move rfl) ?_
          refine LW.pureYB rfl rfl rfl rfl (not_f hq8) (RV.move rfl) ?_
          refine LW.pureYB rfl rfl rfl rfl (not_f hq8) (RV.move rfl) ?_
          refine LW.pureYB rfl rfl rfl rfl (not_f hq8) (RV.nei rfl rfl) ?_
          refine LW.pure rfl rfl (RV.pickFB rfl (not_f hq8) rfl) ?_
          replace H := H.pick (L' := [.own A20_0_supply c20_0_supply 3 1 (List.map encN r1.1.supply), .own A20_0_demand c20_0_demand 3 1 (List.map encN r1.1.demand), .tab A20_0_cost c20_0_cost 22 hs20_0_cost 3 1 (encM encN r1.1.cost), .blk b1 25 [.slice A_a0_supply a0.supply.length c_a0_supply, .slice A_a0_demand a0.demand.length c_a0_demand, .slice A_a0_cost a0.cost.length c_a0_cost], .blk b2 25 [.slice A_a1_supply a1.supply.length c_a1_supply, .slice A_a1_demand a1.demand.length c_a1_demand, .slice A_a1_cost a1.cost.length c_a1_cost], .blk b3 25 [.slice A20_0_supply r1.1.supply.length c20_0_supply, .slice A20_0_demand r1.1.demand.length c20_0_demand, .slice A20_0_cost r1.1.cost.length c20_0_cost]]) [5, 6, 7, 8, 9, 4] (by decide) rfl
          replace R0 := H.ext
          refine LW.nil (jK31 _ _ ⟨_, ?_, ⟨(!(decide (r1.2 = r8.2))), F, rfl, H⟩⟩)
          exact ⟨rfl, rfl, rfl, rfl, rfl, rfl, trivial⟩
        ·
          replace F := ite_n hp8 F
          have hq8 : r9 = false := raw_f hp8
          refine CW.region ?_
          refine LW.pure rfl rfl (RV.loadA [.slice A20_0_supply r1.1.supply.length c20_0_supply, .slice A20_0_demand r1.1.demand.length c20_0_demand, .slice A20_0_cost r1.1.cost.length c20_0_cost] Tk25 rfl (H.blk 4 rfl).cells rfl rfl) ?_
          refine LW.pure rfl rfl (RV.loadA [.slice A22_0_supply r8.1.supply.length c22_0_supply, .slice A22_0_demand r8.1.demand.length c22_0_demand, .slice A22_0_cost r8.1.cost.length c22_0_cost] Tk25 rfl (H.blk 0 rfl).cells rfl rfl) ?_
          refine LW.go rfl rfl (OW.call Tc30 rfl (ref07_Same_ok (a0 := r1.1) (a1 := r8.1) (H.own 5 rfl).sl (H.own 6 rfl).sl (H.tab 7 rfl).sl2 (H.own 1 rfl).sl (H.own 2 rfl).sl (H.tab 3 rfl).sl2 hr9) ?_)
          rintro _ w16 ⟨rfl, E10⟩
          refine ⟨_, rfl, ?_⟩
          replace H := H.grow E10
          replace R0 := H.ext
          refine LW.pure rfl rfl (RV.not rfl) ?_
          refine LW.pure rfl rfl (RV.move rfl) ?_
          refine LW.noB rfl rfl rfl rfl (ne_beq (v := true) (not_t hq8) rfl) ?_
          refine LW.noB rfl rfl rfl rfl (ne_beq (v := true) (not_t hq8) rfl) ?_
          refine LW.noB rfl rfl rfl rfl (ne_beq (v := true) (not_t hq8) rfl) ?_
          refine LW.pure rfl rfl (RV.pickTB rfl (not_t hq8) rfl) ?_
          replace H := H.pick (L' := [.own A20_0_supply c20_0_supply 3 1 (List.map encN r1.1.supply), .own A20_0_demand c20_0_demand 3 1 (List.map encN r1.1.demand), .tab A20_0_cost c20_0_cost 22 hs20_0_cost 3 1 (encM encN r1.1.cost), .blk b1 25 [.slice A_a0_supply a0.supply.length c_a0_supply, .slice A_a0_demand a0.demand.length c_a0_demand, .slice A_a0_cost a0.cost.length c_a0_cost], .blk b2 25 [.slice A_a1_supply a1.supply.length c_a1_supply, .slice A_a1_demand a1.demand.length c_a1_demand, .slice A_a1_cost a1.cost.length c_a1_cost], .blk b3 25 [.slice A20_0_supply r1.1.supply.length c20_0_supply, .slice A20_0_demand r1.1.demand.length c20_0_demand, .slice A20_0_cost r1.1.cost.length c20_0_cost]]) [5, 6, 7, 8, 9, 4] (by decide) rfl
          replace R0 := H.ext
          refine LW.nil (jK31 _ _ ⟨_, ?_, ⟨true, F, rfl, H⟩⟩)
          exact ⟨rfl, rfl, rfl, rfl, rfl, rfl, trivial⟩
  ·
    intro K16 hK16 jK32
    obtain ⟨r10, hr10, F⟩ := bnd_some F
    by_cases hp9 : r10 = true
    ·
      replace F := ite_y hp9 F
      have hq9 : r10 = true := hp9
      refine CW.region ?_
      refine LW.pure rfl rfl (RV.loadA [.slice A_a0_supply a0.supply.length c_a0_supply, .slice A_a0_demand a0.demand.length c_a0_demand, .slice A_a0_cost a0.cost.length c_a0_cost] Tk25 rfl (H.blk 1 rfl).cells rfl rfl) ?_
      refine LW.go rfl rfl (OW.call Tc17 rfl (law07_Long_ok (a0 := a0) (a1 := ([] : List (List (List Int)))) (h_a0_supply.ext R0) (h_a0_demand.ext R0) (h_a0_cost.ext R0) (Sl3.nil_) hr10) ?_)
      rintro _ w17 ⟨rfl, E11⟩
      refine ⟨_, rfl, ?_⟩
      replace H := H.grow E11
      replace R0 := H.ext
      refine LW.pure rfl rfl (RV.move rfl) ?_
      refine LW.noB rfl rfl rfl rfl (ne_beq (v := true) hq9 rfl) ?_
      refine LW.noB rfl rfl rfl rfl (ne_beq (v := true) hq9 rfl) ?_
      refine LW.pure rfl rfl (RV.pickTB rfl hq9 rfl) ?_
      replace H := H.pick (L' := [.blk b1 25 [.slice A_a0_supply a0.supply.length c_a0_supply, .slice A_a0_demand a0.demand.length c_a0_demand, .slice A_a0_cost a0.cost.length c_a0_cost], .blk b2 25 [.slice A_a1_supply a1.supply.length c_a1_supply, .slice A_a1_demand a1.demand.length c_a1_demand, .slice A_a1_cost a1.cost.length c_a1_cost]]) [1, 0] (by decide) rfl
      replace R0 := H.ext
      refine LW.nil (jK32 _ _ ⟨_, ?_, ⟨true, F, rfl, H⟩⟩)
      exact ⟨rfl, rfl, rfl, rfl, trivial⟩
    ·
      replace F := ite_n hp9 F
      have hq9 : r10 = false := raw_f hp9
      obtain ⟨r11, hr11, F⟩ := bnd_some F
      refine CW.region ?_
      refine LW.pure rfl rfl (RV.loadA [.slice A_a0_supply a0.supply.length c_a0_supply, .slice A_a0_demand a0.demand.length c_a0_demand, .slice A_a0_cost a0.cost.length c_a0_cost] Tk25 rfl (H.blk 1 rfl).cells rfl rfl) ?_
      refine LW.go rfl rfl (OW.call Tc17 rfl (law07_Long_ok (a0 := a0) (a1 := ([] : List (List (List Int)))) (h_a0_supply.ext R0) (h_a0_demand.ext R0) (h_a0_cost.ext R0) (Sl3.nil_) hr10) ?_)
      rintro _ w18 ⟨rfl, E12⟩
      refine ⟨_, rfl, ?_⟩
      replace H := H.grow E12
      replace R0 := H.ext
      refine LW.pure rfl rfl (RV.move rfl) ?_
      refine LW.pureYB rfl rfl rfl rfl hq9 (RV.loadA [.slice A_a1_supply a1.supply.length c_a1_supply, .slice A_a1_demand a1.demand.length c_a1_demand, .slice A_a1_cost a1.cost.length c_a1_cost] Tk25 rfl (H.blk 0 rfl).cells rfl rfl) ?_
      refine LW.yesB rfl rfl rfl rfl hq9 (OW.call Tc17 rfl (law07_Long_ok (a0 := a1) (a1 := ([] : List (List (List Int)))) (h_a1_supply.ext R0) (h_a1_demand.ext R0) (h_a1_cost.ext R0) (Sl3.nil_) hr11) ?_)
      rintro _ w19 ⟨rfl, E13⟩
      refine ⟨_, rfl, ?_⟩
      replace H := H.grow E13
      replace R0 := H.ext
      refine LW.pure rfl rfl (RV.pickFB rfl hq9 rfl) ?_
      replace H := H.pick (L' := [.blk b1 25 [.slice A_a0_supply a0.supply.length c_a0_supply, .slice A_a0_demand a0.demand.length c_a0_demand, .slice A_a0_cost a0.cost.length c_a0_cost], .blk b2 25 [.slice A_a1_supply a1.supply.length c_a1_supply, .slice A_a1_demand a1.demand.length c_a1_demand, .slice A_a1_cost a1.cost.length c_a1_cost]]) [1, 0] (by decide) rfl
      replace R0 := H.ext
      refine LW.nil (jK32 _ _ ⟨_, ?_, ⟨r11, F, rfl, H⟩⟩)
      exact ⟨rfl, rfl, rfl, rfl, trivial⟩
end Go.D7

namespace Go.Tb
/-- A loop over 0 .. N - 1 with a state, that is left at the first i for which p does not hold. -/
theorem scan_loop {S R : Type} (N : Nat) (p : Nat → Bool) (g : Nat → S) (L : Nat → S → Int → Option R) (yes : Option R) (no : Nat → Option R)
    (step : ∀ n i : Nat, i < N → L (n + 1) (g i) (i : Int) = if p i = true then L n (g (i + 1)) ((i + 1 : Nat) : Int) else no i)
    (stop : ∀ n : Nat, L (n + 1) (g N) (N : Int) = yes) : ∀ (d n i : Nat), N = i + d → d < n → L n (g i) (i : Int) = match (List.range' i d).find? (fun j => !p j) with | none => yes | some j => no j
  | 0, n + 1, i, hd, hn => by
    have hi : i = N := by omega
    subst hi
    rw [stop n]; rfl
  | d + 1, n + 1, i, hd, hn => by
    rw [step n i (by omega), List.range'_succ, List.find?_cons]
    cases hp : p i
    · simp
    · simp only [if_true, Bool.not_true]
      exact scan_loop N p g L yes no step stop d n (i + 1) (by omega) (by omega)
theorem find_all {p : Nat → Bool} {i d : Nat} : (List.range' i d).find? (fun j => !p j) = none ↔ ∀ j, i ≤ j → j < i + d → p j = true := by
  rw [List.find?_eq_none]
  constructor
  · intro h j h1 h2
    have := h j (by rw [List.mem_range'_1]; omega)
    simpa using this
  · intro h x hx
    rw [List.mem_range'_1] at hx
    simp [h x hx.1 hx.2]
/-- A loop over 0 .. N - 1 with a state and no way out. -/
theorem for_loop {S R : Type} (N : Nat) (g : Nat → S) (L : Nat → S → Int → Option R) (yes : Option R)
    (step : ∀ n i : Nat, i < N → L (n + 1) (g i) (i : Int) = L n (g (i + 1)) ((i + 1 : Nat) : Int))
    (stop : ∀ n : Nat, L (n + 1) (g N) (N : Int) = yes) : ∀ (d n i : Nat), N = i + d → d < n → L n (g i) (i : Int) = yes
  | 0, n + 1, i, hd, hn => by
    have hi : i = N := by omega
    subst hi
    exact stop n
  | d + 1, n + 1, i, hd, hn => by
    rw [step n i (by omega)]
    exact for_loop N g L yes step stop d n (i + 1) (by omega) (by omega)
theorem for_loop0 {S R : Type} (N : Nat) (g : Nat → S) (L : Nat → S → Int → Option R) (yes : Option R)
    (step : ∀ n i : Nat, i < N → L (n + 1) (g i) (i : Int) = L n (g (i + 1)) ((i + 1 : Nat) : Int))
    (stop : ∀ n : Nat, L (n + 1) (g N) (N : Int) = yes) (hN : N ≤ 9223372036854775807) : L FU (g 0) 0 = yes :=
  for_loop N g L yes step stop N FU 0 (by omega) (by have := FU_pos; omega)
theorem scan_loop0 {S R : Type} (N : Nat) (p : Nat → Bool) (g : Nat → S) (L : Nat → S → Int → Option R) (yes no : Option R)
    (step : ∀ n i : Nat, i < N → L (n + 1) (g i) (i : Int) = if p i = true then L n (g (i + 1)) ((i + 1 : Nat) : Int) else no)
    (stop : ∀ n : Nat, L (n + 1) (g N) (N : Int) = yes) (hN : N ≤ 9223372036854775807) : L FU (g 0) 0 = if (∀ j, j < N → p j = true) then yes else no := by
  have h := scan_loop N p g L yes (fun _ => no) step stop N FU 0 (by omega) (by have := FU_pos; omega)
  refine Eq.trans h ?_
  cases hf : (List.range' 0 N).find? (fun j => !p j) with
  | none => rw [if_pos (fun j hj => find_all.1 hf j (by omega) (by omega))]
  | some j =>
    have h1 := List.find?_some hf
    have h2 := List.mem_of_find?_eq_some hf
    rw [List.mem_range'_1] at h2
    rw [if_neg]
    intro hall
    have := hall j (by omega)
    simp [this] at h1
/-- The same over the elements of a list. -/
theorem list_loop0 {α R : Type} (l : List α) (p : α → Bool) (L : Nat → Int → Option R) (yes no : Option R)
    (step : ∀ (n i : Nat) (x : α), l[i]? = some x → L (n + 1) (i : Int) = if p x = true then L n ((i + 1 : Nat) : Int) else no)
    (stop : ∀ n : Nat, L (n + 1) (l.length : Int) = yes) (hl : l.length ≤ 9223372036854775807) : L FU 0 = if l.all p = true then yes else no := by
  have h := scan_loop0 l.length (fun i => (l[i]?.map p).getD true) (fun _ => ()) (fun n _ i => L n i) yes no (fun n i hi => by
    have hx : l[i]? = some l[i] := by simp [hi]
    rw [step n i _ hx]; simp [hx]) stop hl
  refine Eq.trans h ?_
  by_cases ha : l.all p = true
  · rw [if_pos ha, if_pos]
    intro j hj
    have := List.all_eq_true.1 ha l[j] (List.getElem_mem hj)
    simp [hj, this]
  · rw [if_neg ha, if_neg]
    intro hc
    refine ha (List.all_eq_true.2 fun x hx => ?_)
    obtain ⟨j, hj⟩ := List.getElem?_of_mem hx
    have := hc j (lt_of_at hj)
    simpa [hj] using this
end Go.Tb
