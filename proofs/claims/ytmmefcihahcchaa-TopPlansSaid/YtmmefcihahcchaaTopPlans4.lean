/- Lemmas and walks that the proof of this claim uses: D7m15, D7m16, D7m17, D7m18, D7n2, Tb22. -/
import Derived.Test.YtmmefcihahcchaaTopPlans3
set_option linter.unusedVariables false
set_option linter.unusedSimpArgs false
namespace Go.D7
open Go.Tb Go.Proofs Go.RowKit
theorem Tc27 : callable Try.prog 27 = true := by kernel_rfl
theorem Tc61 : callable Try.prog 61 = true := by kernel_rfl
theorem Tc62 : callable Try.prog 62 = true := by kernel_rfl
theorem Tc63 : callable Try.prog 63 = true := by kernel_rfl
theorem Tf72_0 : tyF Try.prog 72 0 = some 0 := by kernel_rfl
theorem Tf72_1 : tyF Try.prog 72 1 = some 3 := by kernel_rfl
theorem Tk72 : tyK Try.prog 72 = some (true, 4) := by kernel_rfl
theorem Tz27 : tyZ Try.prog 27 = some (.agg #[.slice none 0 0, .slice none 0 0]) := by kernel_rfl
theorem Tz72 : tyZ Try.prog 72 = some (.agg #[.slice none 0 0, .slice none 0 0, .slice none 0 0, .slice none 0 0]) := by kernel_rfl
set_option maxRecDepth 20000 in
set_option maxHeartbeats 1000000 in
theorem bulk_prices_store_ok {a0 : Prices_} {a1 : Int} {A_a0_t_supply : Option Addr} {c_a0_t_supply : Nat} {A_a0_t_demand : Option Addr} {c_a0_t_demand : Nat} {A_a0_t_cost : Option Addr} {c_a0_t_cost : Nat} {A_a0_lowest : Option Addr} {c_a0_lowest : Nat} {w : World} {res : Int} (h_a0_t_supply : Sl w A_a0_t_supply c_a0_t_supply 1 (a0.t.supply.map encN)) (h_a0_t_demand : Sl w A_a0_t_demand c_a0_t_demand 1 (a0.t.demand.map encN)) (h_a0_t_cost : Sl2 w A_a0_t_cost c_a0_t_cost 1 encN a0.t.cost) (h_a0_lowest : Sl w A_a0_lowest c_a0_lowest 1 (a0.lowest.map encN)) (F : bulk_prices_store a0 a1 = some res) : Calls Try.prog 62 #[.agg #[.slice A_a0_t_supply a0.t.supply.length c_a0_t_supply, .slice A_a0_t_demand a0.t.demand.length c_a0_t_demand, .slice A_a0_t_cost a0.t.cost.length c_a0_t_cost, .slice A_a0_lowest a0.lowest.length c_a0_lowest], .int .i64 a1] w (Rt w (.int .i64 res)) := by
  refine calls_of_cw (args := [.agg #[.slice A_a0_t_supply a0.t.supply.length c_a0_t_supply, .slice A_a0_t_demand a0.t.demand.length c_a0_t_demand, .slice A_a0_t_cost a0.t.cost.length c_a0_t_cost, .slice A_a0_lowest a0.lowest.length c_a0_lowest], .int .i64 a1]) Try.func62 rfl rfl rfl rfl ?_
  have H := Hp.start w
  have R0 := H.ext
  unfold bulk_prices_store at F
  refine CW.seq fun K1 hK1 => ?_
  refine CW.region ?_
  refine LW.go rfl rfl (OW.box rfl fun b1 w1 N1 => ?_)
  replace H := H.new N1 N1.blk
  replace R0 := H.ext
  refine LW.pure rfl rfl (RV.assign rfl) ?_
  refine LW.nil (hK1 _ _ ?_)
  refine CW.seq fun K2 hK2 => ?_
  obtain ⟨x1, hbx1, hx1, F⟩ := ix_some F
  obtain ⟨hg1, F⟩ := gd_some F
  refine CW.region ?_
  refine LW.pure rfl rfl (RV.fieldAddr Tf72_1 rfl) ?_
  refine LW.pure rfl rfl (RV.load1 Tk22 rfl ((H.blk 0 rfl).cells.off 3) rfl) ?_
  refine LW.pure rfl rfl (RV.move rfl) ?_
  refine LW.pure rfl rfl (RV.indexAddr Ts22 rfl rfl hbx1 (h_a0_lowest.addr_ hx1)) ?_
  refine LW.pure rfl rfl (RV.load1 Tk3 rfl ((h_a0_lowest.at_ hx1).ext R0) rfl) ?_
  refine LW.pure rfl rfl (RV.neg rfl hg1) ?_
  refine LW.pure rfl rfl (RV.assign rfl) ?_
  refine LW.nil (hK2 _ _ ?_)
  refine CW.ret ?_
  obtain rfl := Option.some.inj F
  refine ⟨_, (ResOK.one rfl), ?_⟩
  refine ⟨(by first | rfl | simp), R0⟩
set_option maxRecDepth 20000 in
set_option maxHeartbeats 1000000 in
theorem bulk_list_ok {a0 : Int} {a1 : Int → Option Int} {f_a1 : Nat} {p_a1 : Array Value} {q_a1 : Array Value} {w : World} {res : (List Int)} (h_a1 : ∀ (x0 : Int) (r : Int), a1 x0 = some r → ∀ w1, Ext w w1 → CallsV Try.prog f_a1 p_a1 q_a1 #[.int .i64 x0] w1 (Rt w1 (.int .i64 r))) (F : bulk_list a0 a1 = some res) : Calls Try.prog 61 #[.int .i64 a0, .func (.func f_a1) p_a1 q_a1] w (fun e w' => ∃ (A1 : Option Addr) (c1 : Nat), e = .returned (.slice A1 res.length c1) ∧ Hp w w' [.own A1 c1 3 1 (List.map encN res)]) := by
  refine calls_of_cw (args := [.int .i64 a0, .func (.func f_a1) p_a1 q_a1]) Try.func61 rfl rfl rfl rfl ?_
  have H := Hp.start w
  have R0 := H.ext
  unfold bulk_list at F
  refine CW.seq fun K1 hK1 => ?_
  refine CW.region ?_
  refine LW.pure rfl rfl (RV.assign rfl) ?_
  refine LW.nil (hK1 _ _ ?_)
  refine CW.seq fun K2 hK2 => ?_
  refine CW.region ?_
  refine LW.pure rfl rfl (RV.assign rfl) ?_
  refine LW.nil (hK2 _ _ ?_)
  refine CW.seqJ (fun ρ wl1 => (∃ (l1 : List Int) (Al1 : Option Addr) (cl1 : Nat), bulk_list_k1 l1 = some res ∧ ρ = [(4, .slice none 0 0), (5, .slice Al1 l1.length cl1)] ∧ Hp w wl1 [.own Al1 cl1 3 1 (List.map encN l1)])) ?_ ?_
  ·
    rintro _ wl1 ⟨l1, Al1, cl1, F, rfl, H⟩
    have R0 := H.ext
    unfold bulk_list_k1 at F
    refine CW.seq fun K3 hK3 => ?_
    refine CW.region ?_
    refine LW.pure rfl rfl (RV.move rfl) ?_
    refine LW.pure rfl rfl (RV.assign rfl) ?_
    refine LW.nil (hK3 _ _ ?_)
    refine CW.ret ?_
    obtain rfl := Option.some.inj F
    refine ⟨_, (ResOK.one rfl), ?_⟩
    exact ⟨Al1, cl1, (by first | rfl | (simp; done) | (simp; omega)), H⟩
  ·
    intro K4 hK4 jK47
    refine CW.seq fun K5 hK5 => ?_
    refine CW.region ?_
    refine LW.pure rfl rfl (RV.move rfl) ?_
    refine LW.pure rfl rfl (RV.move rfl) ?_
    refine LW.nil (hK5 _ _ ?_)
    refine CW.block ?_
    replace H := H.nilOwn 3 1
    replace R0 := H.ext
    refine CW.loop (fun meas ρ wl2 => ∃ (t8_1 : Int) (l2 : List Int) (Al2 : Option Addr) (cl2 : Nat), bulk_list_L1 a0 a1 meas t8_1 l2 = some res ∧ ρ = [(1, .func (.func f_a1) p_a1 q_a1), (4, .slice none 0 0), (5, .slice Al2 l2.length cl2), (7, .int .i64 a0), (8, .int .i64 t8_1)] ∧ Hp w wl2 [.own Al2 cl2 3 1 (List.map encN l2)]) FU ⟨_, ?_, ((0 : Int)), (([] : List Int)), none, 0, F, rfl, H⟩ ?_
    · exact ⟨rfl, rfl, (look_slice rfl (by first | rfl | (simp; done) | (simp; omega))), rfl, rfl, trivial⟩
    rintro mk1 _ wl2 ⟨t8_1, l2, Al2, cl2, F, rfl, H⟩
    have R0 := H.ext
    replace F := bulk_list_L1_s F
    obtain ⟨mk1, rfl, F⟩ := F
    generalize hrec1 : bulk_list_L1 a0 a1 mk1 = rec1 at F
    unfold bulk_list_B1 at F
    refine CW.seq fun K6 hK6 => ?_
    refine CW.region ?_
    refine LW.pure rfl rfl (RV.lss rfl rfl) ?_
    refine LW.nil (hK6 _ _ ?_)
    refine CW.seq fun K7 hK7 => ?_
    by_cases hp1 : t8_1 < a0
    ·
      replace F := ite_y hp1 F
      have hq1 := dec_t hp1
      refine CW.condT rfl hq1 ?_
      refine CW.skip (hK7 _ _ ?_)
      refine CW.seq fun K8 hK8 => ?_
      refine CW.block ?_
      refine CW.seq fun K9 hK9 => ?_
      refine CW.region ?_
      refine LW.pure rfl rfl (RV.move rfl) ?_
      refine LW.pure rfl rfl (RV.assign rfl) ?_
      refine LW.nil (hK9 _ _ ?_)
      obtain ⟨r1, hr1, F⟩ := bnd_some F
      obtain ⟨hg1, F⟩ := gd_some F
      refine CW.region ?_
      refine LW.pure rfl rfl (RV.move rfl) ?_
      refine LW.pure rfl rfl (RV.move rfl) ?_
      refine LW.pure rfl rfl (RV.move rfl) ?_
      refine LW.go rfl rfl (OW.callV2 rfl rfl rfl (h_a1 _ _ hr1 _ R0) ?_)
      rintro _ w2 ⟨rfl, E1⟩
      refine ⟨_, rfl, ?_⟩
      replace H := H.grow E1
      replace R0 := H.ext
      refine LW.go rfl rfl (OW.buildSlice (e := 3) (vs := [.int .i64 r1]) (cs := [.int .i64 r1]) rfl (fun _ => by kernel_rfl) fun b1 w3 N1 => ?_)
      replace H := H.made' (k := 1) (t := 3) (enc := encN) (l := ([r1] : List Int)) N1 N1.blk (fun _ => rfl) rfl (by first | decide | omega | (simp; done) | (simp; omega))
      replace R0 := H.ext
      refine LW.go rfl rfl (OW.appendG (enc := encN) (l := l2) (xs := ([r1] : List Int)) Ts22 rfl (look_slice rfl (by first | rfl | (simp; done) | (simp; omega))) (H.own 1 rfl) (H.own 0 rfl).sl (fun _ => rfl) rfl rfl hg1 (by decide) fun A2 c2 w4 O1 M1 D1 => ?_)
      replace H : Hp w w4 [.own (some ⟨b1, 0, none⟩) ((([r1] : List Int)).length) 3 1 (List.map encN (([r1] : List Int))), .own A2 c2 3 1 (List.map encN ((l2 ++ ([r1] : List Int))))] := H.mod 1 rfl M1 O1 D1
      replace R0 := H.ext
      refine LW.pure rfl rfl (RV.assign rfl) ?_
      refine LW.nil (hK8 _ _ ?_)
      obtain ⟨hg2, F⟩ := gd_some F
      refine CW.region ?_
      refine LW.pure rfl rfl (RV.add rfl rfl hg2) ?_
      refine LW.pure rfl rfl (RV.move rfl) ?_
      refine LW.nil ?_
      replace H := H.pick (L' := [.own A2 c2 3 1 (List.map encN ((l2 ++ ([r1] : List Int))))]) [1] (by decide) rfl
      replace R0 := H.ext
      subst hrec1
      refine ⟨mk1, Nat.lt_succ_self _, _, ?_, (t8_1 + 1), ((l2 ++ ([r1] : List Int))), A2, c2, F, rfl, H⟩
      exact ⟨rfl, rfl, (look_slice rfl (by first | rfl | (simp; done) | (simp; omega))), rfl, rfl, trivial⟩
    ·
      replace F := ite_n hp1 F
      have hq1 := dec_f hp1
      refine CW.condF rfl hq1 ?_
      refine CW.exit (jK47 _ _ ⟨_, ?_, ⟨l2, Al2, cl2, F, rfl, H⟩⟩)
      exact ⟨rfl, (look_slice rfl (by first | rfl | (simp; done) | (simp; omega))), trivial⟩
set_option maxRecDepth 20000 in
set_option maxHeartbeats 1000000 in
theorem bulk_prices_buyer_ok {a0 : Prices_} {a1 : Int} {A_a0_t_supply : Option Addr} {c_a0_t_supply : Nat} {A_a0_t_demand : Option Addr} {c_a0_t_demand : Nat} {A_a0_t_cost : Option Addr} {c_a0_t_cost : Nat} {A_a0_lowest : Option Addr} {c_a0_lowest : Nat} {w : World} {res : Int} (h_a0_t_supply : Sl w A_a0_t_supply c_a0_t_supply 1 (a0.t.supply.map encN)) (h_a0_t_demand : Sl w A_a0_t_demand c_a0_t_demand 1 (a0.t.demand.map encN)) (h_a0_t_cost : Sl2 w A_a0_t_cost c_a0_t_cost 1 encN a0.t.cost) (h_a0_lowest : Sl w A_a0_lowest c_a0_lowest 1 (a0.lowest.map encN)) (F : bulk_prices_buyer a0 a1 = some res) : Calls Try.prog 63 #[.agg #[.slice A_a0_t_supply a0.t.supply.length c_a0_t_supply, .slice A_a0_t_demand a0.t.demand.length c_a0_t_demand, .slice A_a0_t_cost a0.t.cost.length c_a0_t_cost, .slice A_a0_lowest a0.lowest.length c_a0_lowest], .int .i64 a1] w (Rt w (.int .i64 res)) := by
  refine calls_of_cw (args := [.agg #[.slice A_a0_t_supply a0.t.supply.length c_a0_t_supply, .slice A_a0_t_demand a0.t.demand.length c_a0_t_demand, .slice A_a0_t_cost a0.t.cost.length c_a0_t_cost, .slice A_a0_lowest a0.lowest.length c_a0_lowest], .int .i64 a1]) Try.func63 rfl rfl rfl rfl ?_
  have H := Hp.start w
  have R0 := H.ext
  unfold bulk_prices_buyer at F
  refine CW.seq fun K1 hK1 => ?_
  refine CW.region ?_
  refine LW.go rfl rfl (OW.box rfl fun b1 w1 N1 => ?_)
  replace H := H.new N1 N1.blk
  replace R0 := H.ext
  refine LW.pure rfl rfl (RV.assign rfl) ?_
  refine LW.nil (hK1 _ _ ?_)
  refine CW.seq fun K2 hK2 => ?_
  obtain ⟨hg1, F⟩ := gd_some F
  obtain ⟨x1, hbx1, hx1, F⟩ := ix_some F
  refine CW.region ?_
  refine LW.pure rfl rfl (RV.fieldAddr Tf72_1 rfl) ?_
  refine LW.pure rfl rfl (RV.load1 Tk22 rfl ((H.blk 0 rfl).cells.off 3) rfl) ?_
  refine LW.pure rfl rfl (RV.fieldAddr Tf72_0 rfl) ?_
  refine LW.pure rfl rfl (RV.fieldAddr Tf25_0 rfl) ?_
  refine LW.pure rfl rfl (RV.load1 Tk22 rfl (((H.blk 0 rfl).cells.off 0).off 0) rfl) ?_
  refine LW.pure rfl rfl (RV.len Ts22 rfl) ?_
  refine LW.pure rfl rfl (RV.move rfl) ?_
  refine LW.pure rfl rfl (RV.add rfl rfl hg1) ?_
  refine LW.pure rfl rfl (RV.indexAddr Ts22 rfl rfl hbx1 (h_a0_lowest.addr_ hx1)) ?_
  refine LW.pure rfl rfl (RV.load1 Tk3 rfl ((h_a0_lowest.at_ hx1).ext R0) rfl) ?_
  refine LW.pure rfl rfl (RV.assign rfl) ?_
  refine LW.nil (hK2 _ _ ?_)
  refine CW.ret ?_
  obtain rfl := Option.some.inj F
  refine ⟨_, (ResOK.one rfl), ?_⟩
  refine ⟨(by first | rfl | simp), R0⟩
set_option maxRecDepth 20000 in
set_option maxHeartbeats 1000000 in
theorem bulk_Prove_ok {a0 : Trade} {A_a0_supply : Option Addr} {c_a0_supply : Nat} {A_a0_demand : Option Addr} {c_a0_demand : Nat} {A_a0_cost : Option Addr} {c_a0_cost : Nat} {w : World} {res : Prices × Int} (h_a0_supply : Sl w A_a0_supply c_a0_supply 1 (a0.supply.map encN)) (h_a0_demand : Sl w A_a0_demand c_a0_demand 1 (a0.demand.map encN)) (h_a0_cost : Sl2 w A_a0_cost c_a0_cost 1 encN a0.cost) (F : bulk_Prove a0 = some res) : Calls Try.prog 27 #[.agg #[.slice A_a0_supply a0.supply.length c_a0_supply, .slice A_a0_demand a0.demand.length c_a0_demand, .slice A_a0_cost a0.cost.length c_a0_cost]] w (fun e w' => ∃ (A0_stores : Option Addr) (c0_stores : Nat) (A0_buyers : Option Addr) (c0_buyers : Nat), e = .returned (.tuple #[.agg #[.slice A0_stores res.1.stores.length c0_stores, .slice A0_buyers res.1.buyers.length c0_buyers], .int .i64 res.2]) ∧ Hp w w' [.own A0_stores c0_stores 3 1 (List.map encN res.1.stores), .own A0_buyers c0_buyers 3 1 (List.map encN res.1.buyers)]) := by
  refine calls_of_cw (args := [.agg #[.slice A_a0_supply a0.supply.length c_a0_supply, .slice A_a0_demand a0.demand.length c_a0_demand, .slice A_a0_cost a0.cost.length c_a0_cost]]) Try.func27 rfl rfl rfl rfl ?_
  have H := Hp.start w
  have R0 := H.ext
  unfold bulk_Prove at F
  refine CW.seq fun K1 hK1 => ?_
  refine CW.region ?_
  refine LW.go rfl rfl (OW.box rfl fun b1 w1 N1 => ?_)
  replace H := H.new N1 N1.blk
  replace R0 := H.ext
  refine LW.go rfl rfl (OW.alloc Tz27 fun b2 w2 N2 => ?_)
  replace H := H.new N2 N2.blk
  replace R0 := H.ext
  refine LW.pure rfl rfl (RV.assign rfl) ?_
  refine LW.nil (hK1 _ _ ?_)
  refine CW.seq fun K2 hK2 => ?_
  refine CW.seq fun K3 hK3 => ?_
  obtain ⟨r1, hr1, F⟩ := bnd_some F
  refine CW.region ?_
  refine LW.pure rfl rfl (RV.loadA [.slice A_a0_supply a0.supply.length c_a0_supply, .slice A_a0_demand a0.demand.length c_a0_demand, .slice A_a0_cost a0.cost.length c_a0_cost] Tk25 rfl (H.blk 1 rfl).cells rfl rfl) ?_
  refine LW.go rfl rfl (OW.call Tc38 rfl (bulk_Validate_ok (a0 := a0) (h_a0_supply.ext R0) (h_a0_demand.ext R0) (h_a0_cost.ext R0) hr1) ?_)
  rintro _ w3 ⟨rfl, E1⟩
  refine ⟨_, rfl, ?_⟩
  replace H := H.grow E1
  replace R0 := H.ext
  refine LW.pure rfl rfl (RV.assign rfl) ?_
  refine LW.nil (hK3 _ _ ?_)
  refine CW.seq fun K4 hK4 => ?_
  refine CW.region ?_
  refine LW.pure rfl rfl (RV.move rfl) ?_
  refine LW.pure rfl rfl (RV.nei rfl rfl) ?_
  refine LW.nil (hK4 _ _ ?_)
  by_cases hp1 : r1 = 0
  ·
    replace F := ite_y hp1 F
    have hq1 := dec_t hp1
    refine CW.condF rfl (not_f hq1) ?_
    refine CW.skip (hK2 _ _ ?_)
    refine CW.seq fun K5 hK5 => ?_
    obtain ⟨r2, hr2, F⟩ := bnd_some F
    refine CW.region ?_
    refine LW.pure rfl rfl (RV.loadA [.slice A_a0_supply a0.supply.length c_a0_supply, .slice A_a0_demand a0.demand.length c_a0_demand, .slice A_a0_cost a0.cost.length c_a0_cost] Tk25 rfl (H.blk 1 rfl).cells rfl rfl) ?_
    refine LW.go rfl rfl (OW.call Tc55 rfl (bulk_best_ok (a0 := a0) (h_a0_supply.ext R0) (h_a0_demand.ext R0) (h_a0_cost.ext R0) hr2) ?_)
    rintro _ w4 ⟨A8_0, c8_0, hs8_0, A8_1, c8_1, rfl, E2⟩
    refine ⟨_, rfl, ?_⟩
    replace H : Hp w w4 [.tab A8_0 c8_0 22 hs8_0 3 1 (encM encN r2.1), .own A8_1 c8_1 3 1 (List.map encN r2.2), .blk b2 27 [.slice none 0 0, .slice none 0 0], .blk b1 25 [.slice A_a0_supply a0.supply.length c_a0_supply, .slice A_a0_demand a0.demand.length c_a0_demand, .slice A_a0_cost a0.cost.length c_a0_cost]] := H.append E2
    replace R0 := H.ext
    refine LW.pure rfl rfl (RV.move rfl) ?_
    refine LW.pure rfl rfl (RV.extract rfl rfl) ?_
    refine LW.pure rfl rfl (RV.extract rfl rfl) ?_
    refine LW.pure rfl rfl (RV.assign rfl) ?_
    refine LW.pure rfl rfl (RV.assign rfl) ?_
    refine LW.nil (hK5 _ _ ?_)
    refine CW.seq fun K6 hK6 => ?_
    refine CW.region ?_
    refine LW.pure rfl rfl (RV.loadA [.slice A_a0_supply a0.supply.length c_a0_supply, .slice A_a0_demand a0.demand.length c_a0_demand, .slice A_a0_cost a0.cost.length c_a0_cost] Tk25 rfl (H.blk 3 rfl).cells rfl rfl) ?_
    refine LW.pure rfl rfl (RV.move rfl) ?_
    refine LW.pure rfl rfl (RV.build (vs := [.agg #[.slice A_a0_supply a0.supply.length c_a0_supply, .slice A_a0_demand a0.demand.length c_a0_demand, .slice A_a0_cost a0.cost.length c_a0_cost], .slice A8_1 r2.2.length c8_1]) (cs := [.slice A_a0_supply a0.supply.length c_a0_supply, .slice A_a0_demand a0.demand.length c_a0_demand, .slice A_a0_cost a0.cost.length c_a0_cost, .slice A8_1 r2.2.length c8_1]) rfl (fun _ => by kernel_rfl)) ?_
    refine LW.go rfl rfl (OW.alloc Tz72 fun b3 w5 N3 => ?_)
    replace H := H.new N3 N3.blk
    replace R0 := H.ext
    refine LW.go rfl rfl (OW.store Tk72 rfl rfl (H.blk 0 rfl) (off := 0) (vs := [.slice A_a0_supply a0.supply.length c_a0_supply, .slice A_a0_demand a0.demand.length c_a0_demand, .slice A_a0_cost a0.cost.length c_a0_cost, .slice A8_1 r2.2.length c8_1]) rfl rfl rfl rfl rfl fun w6 S1 => ?_)
    replace H : Hp w w6 [.blk b3 72 [.slice A_a0_supply a0.supply.length c_a0_supply, .slice A_a0_demand a0.demand.length c_a0_demand, .slice A_a0_cost a0.cost.length c_a0_cost, .slice A8_1 r2.2.length c8_1], .tab A8_0 c8_0 22 hs8_0 3 1 (encM encN r2.1), .own A8_1 c8_1 3 1 (List.map encN r2.2), .blk b2 27 [.slice none 0 0, .slice none 0 0], .blk b1 25 [.slice A_a0_supply a0.supply.length c_a0_supply, .slice A_a0_demand a0.demand.length c_a0_demand, .slice A_a0_cost a0.cost.length c_a0_cost]] := H.stored 0 rfl S1
    replace R0 := H.ext
    refine LW.nil (hK6 _ _ ?_)
    refine CW.seq fun K7 hK7 => ?_
    obtain ⟨r3, hr3, F⟩ := bnd_some F
    obtain ⟨r4, hr4, F⟩ := bnd_some F
    refine CW.draw [13] (fun _ => True) (.cons 0 1 (.cons 1 1 (.cons 2 1 (.cons 3 1 (.cons 4 1 (.cons 6 1 (.cons 7 1 (.cons 8 1 (.cons 9 1 (.cons 10 1 (.cons 5 0 (.cons 11 0 (.cons 12 1 (.cons 13 0 (.cons 14 2 .nil))))))))))))))) mixed (by kernel_rfl) fun w7 E3 => ?_
    replace H := H.grow E3
    replace R0 := H.ext
    refine DW.fix rfl rfl rfl (fun _ EQ => RV.fieldAddr Tf25_0 rfl) ?_
    refine DW.fix rfl rfl rfl (fun _ EQ => RV.load1 Tk22 rfl (((H.grow EQ).blk 4 rfl).cells.off 0) rfl) ?_
    refine DW.fix rfl rfl rfl (fun _ EQ => RV.len Ts22 rfl) ?_
    refine DW.fix rfl rfl rfl (fun _ EQ => RV.loadA [.slice A_a0_supply a0.supply.length c_a0_supply, .slice A_a0_demand a0.demand.length c_a0_demand, .slice A_a0_cost a0.cost.length c_a0_cost, .slice A8_1 r2.2.length c8_1] Tk72 rfl ((H.grow EQ).blk 0 rfl).cells rfl rfl) ?_
    refine DW.fix rfl rfl rfl (fun _ EQ => RV.makeFunc (fs := [.agg #[.slice A_a0_supply a0.supply.length c_a0_supply, .slice A_a0_demand a0.demand.length c_a0_demand, .slice A_a0_cost a0.cost.length c_a0_cost, .slice A8_1 r2.2.length c8_1]]) (cs := []) rfl rfl) ?_
    refine DW.fix rfl rfl rfl (fun _ EQ => RV.fieldAddr Tf25_1 rfl) ?_
    refine DW.fix rfl rfl rfl (fun _ EQ => RV.load1 Tk22 rfl (((H.grow EQ).blk 4 rfl).cells.off 1) rfl) ?_
    refine DW.fix rfl rfl rfl (fun _ EQ => RV.len Ts22 rfl) ?_
    refine DW.fix rfl rfl rfl (fun _ EQ => RV.loadA [.slice A_a0_supply a0.supply.length c_a0_supply, .slice A_a0_demand a0.demand.length c_a0_demand, .slice A_a0_cost a0.cost.length c_a0_cost, .slice A8_1 r2.2.length c8_1] Tk72 rfl ((H.grow EQ).blk 0 rfl).cells rfl rfl) ?_
    refine DW.fix rfl rfl rfl (fun _ EQ => RV.makeFunc (fs := [.agg #[.slice A_a0_supply a0.supply.length c_a0_supply, .slice A_a0_demand a0.demand.length c_a0_demand, .slice A_a0_cost a0.cost.length c_a0_cost, .slice A8_1 r2.2.length c8_1]]) (cs := []) rfl rfl) ?_
    refine DW.sole rfl rfl rfl (OW.call Tc61 rfl (bulk_list_ok (a0 := (a0.supply.length : Int)) (a1 := (fun x0 => bulk_prices_store ((⟨a0, r2.2⟩ : Prices_)) x0)) (fun x0 r hF w8 hE => CallsV.cap Tc62 (by simp) (bulk_prices_store_ok (a0 := (⟨a0, r2.2⟩ : Prices_)) (a1 := x0) ((h_a0_supply.ext R0).ext hE) ((h_a0_demand.ext R0).ext hE) ((h_a0_cost.ext R0).ext hE) ((H.own 2 rfl).sl.ext hE) hF)) hr3) ?_)
    rintro _ w9 ⟨A11_0, c11_0, rfl, E4⟩
    refine ⟨_, rfl, fun _ => E4.ext, ModX.ext E4.ext, ?_⟩
    replace H : Hp w w9 [.own A11_0 c11_0 3 1 (List.map encN r3), .blk b3 72 [.slice A_a0_supply a0.supply.length c_a0_supply, .slice A_a0_demand a0.demand.length c_a0_demand, .slice A_a0_cost a0.cost.length c_a0_cost, .slice A8_1 r2.2.length c8_1], .tab A8_0 c8_0 22 hs8_0 3 1 (encM encN r2.1), .own A8_1 c8_1 3 1 (List.map encN r2.2), .blk b2 27 [.slice none 0 0, .slice none 0 0], .blk b1 25 [.slice A_a0_supply a0.supply.length c_a0_supply, .slice A_a0_demand a0.demand.length c_a0_demand, .slice A_a0_cost a0.cost.length c_a0_cost]] := H.append E4
    replace R0 := H.ext
    refine DW.sole rfl rfl rfl (OW.call Tc61 rfl (bulk_list_ok (a0 := (a0.demand.length : Int)) (a1 := (fun x0 => bulk_prices_buyer ((⟨a0, r2.2⟩ : Prices_)) x0)) (fun x0 r hF w8 hE => CallsV.cap Tc63 (by simp) (bulk_prices_buyer_ok (a0 := (⟨a0, r2.2⟩ : Prices_)) (a1 := x0) ((h_a0_supply.ext R0).ext hE) ((h_a0_demand.ext R0).ext hE) ((h_a0_cost.ext R0).ext hE) ((H.own 3 rfl).sl.ext hE) hF)) hr4) ?_)
    rintro _ w10 ⟨A12_0, c12_0, rfl, E5⟩
    refine ⟨_, rfl, fun _ => E5.ext, ModX.ext E5.ext, ?_⟩
    replace H : Hp w w10 [.own A12_0 c12_0 3 1 (List.map encN r4), .own A11_0 c11_0 3 1 (List.map encN r3), .blk b3 72 [.slice A_a0_supply a0.supply.length c_a0_supply, .slice A_a0_demand a0.demand.length c_a0_demand, .slice A_a0_cost a0.cost.length c_a0_cost, .slice A8_1 r2.2.length c8_1], .tab A8_0 c8_0 22 hs8_0 3 1 (encM encN r2.1), .own A8_1 c8_1 3 1 (List.map encN r2.2), .blk b2 27 [.slice none 0 0, .slice none 0 0], .blk b1 25 [.slice A_a0_supply a0.supply.length c_a0_supply, .slice A_a0_demand a0.demand.length c_a0_demand, .slice A_a0_cost a0.cost.length c_a0_cost]] := H.append E5
    replace R0 := H.ext
    refine DW.fix rfl rfl rfl (fun _ EQ => RV.build (vs := [.slice A11_0 r3.length c11_0, .slice A12_0 r4.length c12_0]) (cs := [.slice A11_0 r3.length c11_0, .slice A12_0 r4.length c12_0]) rfl (fun _ => by kernel_rfl)) ?_
    refine DW.sole rfl rfl rfl (OW.store Tk27 rfl rfl (H.blk 5 rfl) (off := 0) (vs := [.slice A11_0 r3.length c11_0, .slice A12_0 r4.length c12_0]) rfl rfl rfl rfl rfl fun w11 S2 => ?_)
    refine ⟨fun h => absurd h (by decide), S2.modx trivial, ?_⟩
    replace H : Hp w w11 [.own A12_0 c12_0 3 1 (List.map encN r4), .own A11_0 c11_0 3 1 (List.map encN r3), .blk b3 72 [.slice A_a0_supply a0.supply.length c_a0_supply, .slice A_a0_demand a0.demand.length c_a0_demand, .slice A_a0_cost a0.cost.length c_a0_cost, .slice A8_1 r2.2.length c8_1], .tab A8_0 c8_0 22 hs8_0 3 1 (encM encN r2.1), .own A8_1 c8_1 3 1 (List.map encN r2.2), .blk b2 27 [.slice A11_0 r3.length c11_0, .slice A12_0 r4.length c12_0], .blk b1 25 [.slice A_a0_supply a0.supply.length c_a0_supply, .slice A_a0_demand a0.demand.length c_a0_demand, .slice A_a0_cost a0.cost.length c_a0_cost]] := H.stored 5 rfl S2
    replace R0 := H.ext
    refine DW.thru rfl rfl rfl (fun _ EQ => RV.assign rfl) ?_
    refine DW.nil (hK7 _ _ ?_)
    refine CW.ret ?_
    obtain rfl := Option.some.inj F
    refine ⟨_, (ResOK.two ⟨_, rfl, run_loadVar_agg Tk27 (H.blk 5 rfl).cells (us := [.slice A11_0 r3.length c11_0, .slice A12_0 r4.length c12_0]) rfl rfl⟩ rfl), ?_⟩
    replace H := H.pick (L' := [.own A11_0 c11_0 3 1 (List.map encN r3), .own A12_0 c12_0 3 1 (List.map encN r4)]) [1, 0] (by decide) rfl
    replace R0 := H.ext
    exact ⟨A11_0, c11_0, A12_0, c12_0, (by first | rfl | (simp; done) | (simp; omega)), H⟩
  ·
    replace F := ite_n hp1 F
    have hq1 := dec_f hp1
    refine CW.condT rfl (not_t hq1) ?_
    refine CW.seq fun K8 hK8 => ?_
    refine CW.region ?_
    refine LW.pure rfl rfl (RV.build (vs := []) (cs := [.slice none 0 0, .slice none 0 0]) rfl (fun _ => by kernel_rfl)) ?_
    refine LW.pure rfl rfl (RV.move rfl) ?_
    refine LW.go rfl rfl (OW.store Tk27 rfl rfl (H.blk 0 rfl) (off := 0) (vs := [.slice none 0 0, .slice none 0 0]) rfl rfl rfl rfl rfl fun w12 S3 => ?_)
    replace H : Hp w w12 [.blk b2 27 [.slice none 0 0, .slice none 0 0], .blk b1 25 [.slice A_a0_supply a0.supply.length c_a0_supply, .slice A_a0_demand a0.demand.length c_a0_demand, .slice A_a0_cost a0.cost.length c_a0_cost]] := H.stored 0 rfl S3
    replace R0 := H.ext
    refine LW.pure rfl rfl (RV.assign rfl) ?_
    refine LW.nil (hK8 _ _ ?_)
    refine CW.ret ?_
    obtain rfl := Option.some.inj F
    refine ⟨_, (ResOK.two ⟨_, rfl, run_loadVar_agg Tk27 (H.blk 0 rfl).cells (us := [.slice none 0 0, .slice none 0 0]) rfl rfl⟩ rfl), ?_⟩
    replace H := H.nilOwn 3 1
    replace R0 := H.ext
    replace H := H.nilOwn 3 1
    replace R0 := H.ext
    replace H := H.pick (L' := [.own none 0 3 1 (List.map encN (([] : List Int))), .own none 0 3 1 (List.map encN (([] : List Int)))]) [1, 0] (by decide) rfl
    replace R0 := H.ext
    exact ⟨none, 0, none, 0, (by first | rfl | (simp; done) | (simp; omega)), H⟩
set_option maxRecDepth 20000 in
set_option maxHeartbeats 1000000 in
theorem bulk_Round_ok {a0 : Trade} {a1 : List (List Int)} {A_a0_supply : Option Addr} {c_a0_supply : Nat} {A_a0_demand : Option Addr} {c_a0_demand : Nat} {A_a0_cost : Option Addr} {c_a0_cost : Nat} {A_a1 : Option Addr} {c_a1 : Nat} {w : World} {res : (List Arr2) × Bool × Int} (h_a0_supply : Sl w A_a0_supply c_a0_supply 1 (a0.supply.map encN)) (h_a0_demand : Sl w A_a0_demand c_a0_demand 1 (a0.demand.map encN)) (h_a0_cost : Sl2 w A_a0_cost c_a0_cost 1 encN a0.cost) (h_a1 : Sl2 w A_a1 c_a1 1 encN a1) (F : bulk_Round a0 a1 = some res) : Calls Try.prog 41 #[.agg #[.slice A_a0_supply a0.supply.length c_a0_supply, .slice A_a0_demand a0.demand.length c_a0_demand, .slice A_a0_cost a0.cost.length c_a0_cost], .slice A_a1 a1.length c_a1] w (fun e w' => ∃ (A0 : Option Addr) (c0 : Nat), e = .returned (.tuple #[.slice A0 res.1.length c0, .bool res.2.1, .int .i64 res.2.2]) ∧ Hp w w' [.own A0 c0 86 2 (List.map encArr2 res.1)]) := by
  refine calls_of_cw (args := [.agg #[.slice A_a0_supply a0.supply.length c_a0_supply, .slice A_a0_demand a0.demand.length c_a0_demand, .slice A_a0_cost a0.cost.length c_a0_cost], .slice A_a1 a1.length c_a1]) Try.func41 rfl rfl rfl rfl ?_
  have H := Hp.start w
  have R0 := H.ext
  unfold bulk_Round at F
  refine CW.seq fun K1 hK1 => ?_
  refine CW.region ?_
  refine LW.go rfl rfl (OW.box rfl fun b1 w1 N1 => ?_)
  replace H := H.new N1 N1.blk
  replace R0 := H.ext
  refine LW.pure rfl rfl (RV.assign rfl) ?_
  refine LW.pure rfl rfl (RV.assign rfl) ?_
  refine LW.pure rfl rfl (RV.assign rfl) ?_
  refine LW.nil (hK1 _ _ ?_)
  refine CW.seq fun K2 hK2 => ?_
  refine CW.seq fun K3 hK3 => ?_
  obtain ⟨r1, hr1, F⟩ := bnd_some F
  refine CW.region ?_
  refine LW.pure rfl rfl (RV.loadA [.slice A_a0_supply a0.supply.length c_a0_supply, .slice A_a0_demand a0.demand.length c_a0_demand, .slice A_a0_cost a0.cost.length c_a0_cost] Tk25 rfl (H.blk 0 rfl).cells rfl rfl) ?_
  refine LW.pure rfl rfl (RV.move rfl) ?_
  refine LW.go rfl rfl (OW.call Tc34 rfl (bulk_CheckPlan_ok (a0 := a0) (a1 := a1) (h_a0_supply.ext R0) (h_a0_demand.ext R0) (h_a0_cost.ext R0) (h_a1.ext R0) hr1) ?_)
  rintro _ w2 ⟨rfl, E1⟩
  refine ⟨_, rfl, ?_⟩
  replace H := H.grow E1
  replace R0 := H.ext
  refine LW.pure rfl rfl (RV.assign rfl) ?_
  refine LW.nil (hK3 _ _ ?_)
  refine CW.seq fun K4 hK4 => ?_
  refine CW.region ?_
  refine LW.pure rfl rfl (RV.move rfl) ?_
  refine LW.pure rfl rfl (RV.nei rfl rfl) ?_
  refine LW.nil (hK4 _ _ ?_)
  by_cases hp1 : r1 = 0
  ·
    replace F := ite_y hp1 F
    have hq1 := dec_t hp1
    refine CW.condF rfl (not_f hq1) ?_
    refine CW.skip (hK2 _ _ ?_)
    refine CW.seq fun K5 hK5 => ?_
    obtain ⟨r2, hr2, F⟩ := bnd_some F
    refine CW.region ?_
    refine LW.pure rfl rfl (RV.loadA [.slice A_a0_supply a0.supply.length c_a0_supply, .slice A_a0_demand a0.demand.length c_a0_demand, .slice A_a0_cost a0.cost.length c_a0_cost] Tk25 rfl (H.blk 0 rfl).cells rfl rfl) ?_
    refine LW.pure rfl rfl (RV.move rfl) ?_
    refine LW.go rfl rfl (OW.call Tc79 rfl (bulk_search_ok (a0 := a0) (a1 := a1) (h_a0_supply.ext R0) (h_a0_demand.ext R0) (h_a0_cost.ext R0) (h_a1.ext R0) hr2) ?_)
    rintro _ w3 ⟨A7_0, c7_0, A7_1, c7_1, rfl, hnl7_1, E2⟩
    refine ⟨_, rfl, ?_⟩
    replace H : Hp w w3 [.own A7_0 c7_0 3 1 (List.map encN r2.1), .own A7_1 c7_1 96 1 (List.map encStep r2.2), .blk b1 25 [.slice A_a0_supply a0.supply.length c_a0_supply, .slice A_a0_demand a0.demand.length c_a0_demand, .slice A_a0_cost a0.cost.length c_a0_cost]] := H.append E2
    replace R0 := H.ext
    refine LW.pure rfl rfl (RV.move rfl) ?_
    refine LW.pure rfl rfl (RV.extract rfl rfl) ?_
    refine LW.pure rfl rfl (RV.extract rfl rfl) ?_
    refine LW.pure rfl rfl (RV.assign rfl) ?_
    refine LW.pure rfl rfl (RV.assign rfl) ?_
    refine LW.nil (hK5 _ _ ?_)
    refine CW.seq fun K6 hK6 => ?_
    refine CW.seq fun K7 hK7 => ?_
    refine CW.region ?_
    refine LW.pure rfl rfl (RV.move rfl) ?_
    refine LW.pure rfl rfl (RV.eqnilL (l := r2.2) Ts82 rfl rfl hnl7_1) ?_
    refine LW.nil (hK7 _ _ ?_)
    by_cases hp2 : r2.2 = []
    ·
      replace F := ite_y hp2 F
      have hq2 := dec_t hp2
      refine CW.condT rfl hq2 ?_
      refine CW.seq fun K8 hK8 => ?_
      refine CW.region ?_
      refine LW.pure rfl rfl (RV.assign rfl) ?_
      refine LW.pure rfl rfl (RV.assign rfl) ?_
      refine LW.pure rfl rfl (RV.assign rfl) ?_
      refine LW.nil (hK8 _ _ ?_)
      refine CW.ret ?_
      obtain rfl := Option.some.inj F
      refine ⟨_, (ResOK.three rfl rfl rfl), ?_⟩
      replace H := H.nilOwn 86 2
      replace R0 := H.ext
      replace H := H.pick (L' := [.own none 0 86 2 (List.map encArr2 (([] : List Arr2)))]) [0] (by decide) rfl
      replace R0 := H.ext
      exact ⟨none, 0, (by first | rfl | (simp; done) | (simp; omega)), H⟩
    ·
      replace F := ite_n hp2 F
      have hq2 := dec_f hp2
      refine CW.condF rfl hq2 ?_
      refine CW.skip (hK6 _ _ ?_)
      refine CW.seq fun K9 hK9 => ?_
      obtain ⟨r3, hr3, F⟩ := bnd_some F
      refine CW.region ?_
      refine LW.pure rfl rfl (RV.move rfl) ?_
      refine LW.go rfl rfl (OW.call Tc80 rfl (bulk_pairs_ok (a0 := r2.2) (H.own 1 rfl).sl hr3) ?_)
      rintro _ w4 ⟨A9_0, c9_0, rfl, E3⟩
      refine ⟨_, rfl, ?_⟩
      replace H : Hp w w4 [.own A9_0 c9_0 86 2 (List.map encArr2 r3), .own A7_0 c7_0 3 1 (List.map encN r2.1), .own A7_1 c7_1 96 1 (List.map encStep r2.2), .blk b1 25 [.slice A_a0_supply a0.supply.length c_a0_supply, .slice A_a0_demand a0.demand.length c_a0_demand, .slice A_a0_cost a0.cost.length c_a0_cost]] := H.append E3
      replace R0 := H.ext
      refine LW.pure rfl rfl (RV.assign rfl) ?_
      refine LW.pure rfl rfl (RV.assign rfl) ?_
      refine LW.pure rfl rfl (RV.assign rfl) ?_
      refine LW.nil (hK9 _ _ ?_)
      refine CW.ret ?_
      obtain rfl := Option.some.inj F
      refine ⟨_, (ResOK.three rfl rfl rfl), ?_⟩
      replace H := H.pick (L' := [.own A9_0 c9_0 86 2 (List.map encArr2 r3)]) [0] (by decide) rfl
      replace R0 := H.ext
      exact ⟨A9_0, c9_0, (by first | rfl | (simp; done) | (simp; omega)), H⟩
  ·
    replace F := ite_n hp1 F
    have hq1 := dec_f hp1
    refine CW.condT rfl (not_t hq1) ?_
    refine CW.seq fun K10 hK10 => ?_
    refine CW.region ?_
    refine LW.pure rfl rfl (RV.move rfl) ?_
    refine LW.pure rfl rfl (RV.assign rfl) ?_
    refine LW.pure rfl rfl (RV.assign rfl) ?_
    refine LW.pure rfl rfl (RV.assign rfl) ?_
    refine LW.nil (hK10 _ _ ?_)
    refine CW.ret ?_
    obtain rfl := Option.some.inj F
    refine ⟨_, (ResOK.three rfl rfl rfl), ?_⟩
    replace H := H.nilOwn 86 2
    replace R0 := H.ext
    replace H := H.pick (L' := [.own none 0 86 2 (List.map encArr2 (([] : List Arr2)))]) [0] (by decide) rfl
    replace R0 := H.ext
    exact ⟨none, 0, (by first | rfl | (simp; done) | (simp; omega)), H⟩
end Go.D7

set_option linter.unusedVariables false
set_option linter.unusedSimpArgs false
namespace Go.D7
open Go.Tb Go.Proofs Go.RowKit
theorem Tc52 : callable Try.prog 52 = true := by kernel_rfl
theorem Te86g : Try.prog.eqGuardType Try.prog.depth 86 = false := by kernel_rfl
theorem Te86 (a0 : Int) (a1 : Int) (b0 : Int) (b1 : Int) (w : World) : (Op.equalIn 10000 86 (.agg #[.int .i64 a0, .int .i64 a1]) (.agg #[.int .i64 b0, .int .i64 b1])).run Try.prog w = .ok ((a0 == b0) && (a1 == b1)) w := by
  obtain ⟨i, hi⟩ := Option.isSome_iff_exists.1 (show (Try.prog.info? 3).isSome = true by kernel_rfl)
  have hc : Try.prog.cellsOf 3 = 1 := by kernel_rfl
  have hu : Try.prog.underlying 3 = some (.int .i64) := by kernel_rfl
  rw [run_equalIn_array w 9999 _ _ (by kernel_rfl) hi, hc]
  have hr : List.range 2 = [0, 1] := rfl
  rw [hr]
  simp [Op.eqItems, part, run_equalIn_int, hu]
  repeat' split
  all_goals simp_all
set_option maxRecDepth 20000 in
set_option maxHeartbeats 1000000 in
theorem ref07_CopyTable_ok {a0 : List (List Int)} {A_a0 : Option Addr} {c_a0 : Nat} {w : World} {res : (List (List Int))} (h_a0 : Sl2 w A_a0 c_a0 1 encN a0) (F : ref07_CopyTable a0 = some res) : Calls Try.prog 52 #[.slice A_a0 a0.length c_a0] w (fun e w' => ∃ (A1 : Option Addr) (c1 : Nat) (hs0 : List (Option Addr × Nat)), e = .returned (.slice A1 res.length c1) ∧ Hp w w' [.tab A1 c1 22 hs0 3 1 (encM encN res)]) := by
  refine calls_of_cw (args := [.slice A_a0 a0.length c_a0]) Try.func52 rfl rfl rfl rfl ?_
  have H := Hp.start w
  have R0 := H.ext
  unfold ref07_CopyTable at F
  refine CW.seq fun K1 hK1 => ?_
  refine CW.region ?_
  refine LW.pure rfl rfl (RV.assign rfl) ?_
  refine LW.nil (hK1 _ _ ?_)
  refine CW.seq fun K2 hK2 => ?_
  refine CW.region ?_
  refine LW.pure rfl rfl (RV.assign rfl) ?_
  refine LW.nil (hK2 _ _ ?_)
  refine CW.seqJ (fun ρ wl1 => (∃ (m1 : List (List Int)) (hsm1 : List (Option Addr × Nat)) (Am1 : Option Addr) (cm1 : Nat), ref07_CopyTable_k1 m1 = some res ∧ ρ = [(2, .slice none 0 0), (3, .slice Am1 m1.length cm1)] ∧ Hp w wl1 [.tab Am1 cm1 22 hsm1 3 1 (encM encN m1)])) ?_ ?_
  ·
    rintro _ wl1 ⟨m1, hsm1, Am1, cm1, F, rfl, H⟩
    have R0 := H.ext
    unfold ref07_CopyTable_k1 at F
    refine CW.seq fun K3 hK3 => ?_
    refine CW.region ?_
    refine LW.pure rfl rfl (RV.move rfl) ?_
    refine LW.pure rfl rfl (RV.assign rfl) ?_
    refine LW.nil (hK3 _ _ ?_)
    refine CW.ret ?_
    obtain rfl := Option.some.inj F
    refine ⟨_, (ResOK.one rfl), ?_⟩
    exact ⟨Am1, cm1, hsm1, (by first | rfl | (simp; done) | (simp; omega)), H⟩
  ·
    intro K4 hK4 jK38
    refine CW.seq fun K5 hK5 => ?_
    refine CW.region ?_
    refine LW.pure rfl rfl (RV.assign rfl) ?_
    refine LW.nil (hK5 _ _ ?_)
    refine CW.block ?_
    replace H := H.nilTab encN 22 3 1
    replace R0 := H.ext
    refine CW.loop (fun meas ρ wl2 => ∃ (t4_1 : Int) (m2 : List (List Int)) (hsm2 : List (Option Addr × Nat)) (Am2 : Option Addr) (cm2 : Nat), ref07_CopyTable_L1 a0 meas t4_1 m2 = some res ∧ ρ = [(0, .slice A_a0 a0.length c_a0), (2, .slice none 0 0), (3, .slice Am2 m2.length cm2), (4, .int .i64 t4_1)] ∧ Hp w wl2 [.tab Am2 cm2 22 hsm2 3 1 (encM encN m2)]) FU ⟨_, ?_, ((0 : Int)), (([] : List (List Int))), ([]), none, 0, F, rfl, H⟩ ?_
    · exact ⟨rfl, rfl, (look_slice rfl (by first | rfl | (simp; done) | (simp; omega))), rfl, trivial⟩
    rintro mk1 _ wl2 ⟨t4_1, m2, hsm2, Am2, cm2, F, rfl, H⟩
    have R0 := H.ext
    replace F := ref07_CopyTable_L1_s F
    obtain ⟨mk1, rfl, F⟩ := F
    generalize hrec1 : ref07_CopyTable_L1 a0 mk1 = rec1 at F
    unfold ref07_CopyTable_B1 at F
    refine CW.seq fun K6 hK6 => ?_
    refine CW.seq fun K7 hK7 => ?_
    refine CW.region ?_
    refine LW.pure rfl rfl (RV.move rfl) ?_
    refine LW.pure rfl rfl (RV.move rfl) ?_
    refine LW.pure rfl rfl (RV.len Ts23 rfl) ?_
    refine LW.pure rfl rfl (RV.lss rfl rfl) ?_
    refine LW.nil (hK7 _ _ ?_)
    by_cases hp1 : t4_1 < ((a0.length : Int))
    ·
      replace F := ite_y hp1 F
      have hq1 := dec_t hp1
      refine CW.condT rfl hq1 ?_
      refine CW.skip (hK6 _ _ ?_)
      refine CW.seq fun K8 hK8 => ?_
      refine CW.block ?_
      obtain ⟨x1, hbx1, hx1, F⟩ := ix_some F
      obtain ⟨hg1, F⟩ := gd_some F
      obtain ⟨hg2, F⟩ := gd_some F
      refine CW.region ?_
      refine LW.pure rfl rfl (RV.move rfl) ?_
      refine LW.go rfl rfl (OW.buildSlice (e := 3) (vs := []) (cs := []) rfl (fun _ => by kernel_rfl) fun b1 w1 N1 => ?_)
      replace H := H.made' (k := 1) (t := 3) (enc := encN) (l := ([] : List Int)) N1 N1.blk (fun _ => rfl) rfl (by first | decide | omega | (simp; done) | (simp; omega))
      replace R0 := H.ext
      refine LW.pure rfl rfl (RV.move rfl) ?_
      refine LW.pure rfl rfl (RV.move rfl) ?_
      obtain ⟨A2, c2, hC1, hS1⟩ := h_a0.at_ hx1
      refine LW.pure rfl rfl (RV.indexAddr Ts23 rfl rfl hbx1 (h_a0.addr hbx1)) ?_
      refine LW.pure rfl rfl (RV.load1 Tk22 rfl (hC1.ext R0) rfl) ?_
      refine LW.go rfl rfl (OW.appendG (enc := encN) (l := ([] : List Int)) (xs := x1) Ts22 (look_slice rfl (by first | rfl | (simp; done) | (simp; omega))) rfl (H.own 0 rfl) (hS1.ext R0) (fun _ => rfl) rfl rfl hg1 (by decide) fun A3 c3 w2 O1 M1 D1 => ?_)
      replace H : Hp w w2 [.own A3 c3 3 1 (List.map encN ((([] : List Int) ++ x1))), .tab Am2 cm2 22 hsm2 3 1 (encM encN m2)] := H.mod 0 rfl M1 O1 D1
      replace R0 := H.ext
      refine LW.go rfl rfl (OW.buildSlice (e := 22) (vs := [.slice A3 (((([] : List Int) ++ x1)).length) c3]) (cs := [.slice A3 (((([] : List Int) ++ x1)).length) c3]) rfl (fun _ => by kernel_rfl) fun b2 w3 N2 => ?_)
      replace H := H.made' (k := 1) (t := 22) (enc := encH) (l := ([((A3, c3), List.map encN ((([] : List Int) ++ x1)))] : List ((Option Addr × Nat) × List (List Value)))) N2 (by have q := N2.blk; simp only [List.flatMap_cons, List.flatMap_nil, encH, List.length_map, List.append_nil, List.cons_append, List.nil_append]; first | done | exact q) (fun _ => rfl) rfl (by first | decide | omega | (simp; done) | (simp; omega))
      replace R0 := H.ext
      refine LW.go rfl rfl (OW.appendT (enc := encN) (m := m2) (l := (([] : List Int) ++ x1)) Ts23 rfl rfl (H.tab 2 rfl) (H.own 0 rfl).sl rfl hg2 (by decide) fun A4 c4 w4 O2 M2 D2 => ?_)
      replace H : Hp w w4 [.own (some ⟨b2, 0, none⟩) ((([((A3, c3), List.map encN ((([] : List Int) ++ x1)))] : List ((Option Addr × Nat) × List (List Value)))).length) 22 1 (List.map encH (([((A3, c3), List.map encN ((([] : List Int) ++ x1)))] : List ((Option Addr × Nat) × List (List Value))))), .tab A4 c4 22 ((hsm2 ++ [(A3, c3)])) 3 1 (encM encN ((m2 ++ [(([] : List Int) ++ x1)])))] := H.tabPush 2 1 (by decide) rfl rfl M2 D2 O2
      replace R0 := H.ext
      refine LW.pure rfl rfl (RV.assign rfl) ?_
      refine LW.nil (hK8 _ _ ?_)
      obtain ⟨hg3, F⟩ := gd_some F
      refine CW.region ?_
      refine LW.pure rfl rfl (RV.move rfl) ?_
      refine LW.pure rfl rfl (RV.add rfl rfl hg3) ?_
      refine LW.pure rfl rfl (RV.assign rfl) ?_
      refine LW.nil ?_
      replace H := H.pick (L' := [.tab A4 c4 22 ((hsm2 ++ [(A3, c3)])) 3 1 (encM encN ((m2 ++ [(([] : List Int) ++ x1)])))]) [1] (by decide) rfl
      replace R0 := H.ext
      subst hrec1
      refine ⟨mk1, Nat.lt_succ_self _, _, ?_, (t4_1 + 1), ((m2 ++ [(([] : List Int) ++ x1)])), ((hsm2 ++ [(A3, c3)])), A4, c4, F, rfl, H⟩
      exact ⟨rfl, rfl, (look_slice rfl (by first | rfl | (simp; done) | (simp; omega))), rfl, trivial⟩
    ·
      replace F := ite_n hp1 F
      have hq1 := dec_f hp1
      refine CW.condF rfl hq1 ?_
      refine CW.exit (jK38 _ _ ⟨_, ?_, ⟨m2, hsm2, Am2, cm2, F, rfl, H⟩⟩)
      exact ⟨rfl, (look_slice rfl (by first | rfl | (simp; done) | (simp; omega))), trivial⟩
end Go.D7

set_option linter.unusedVariables false
set_option linter.unusedSimpArgs false
namespace Go.D7
open Go.Tb Go.Proofs Go.RowKit
theorem Tc100 : callable Try.prog 100 = true := by kernel_rfl
theorem Tc41 : callable Try.prog 41 = true := by kernel_rfl
theorem Tc97 : callable Try.prog 97 = true := by kernel_rfl
set_option maxRecDepth 20000 in
set_option maxHeartbeats 1000000 in
theorem slices_Index_2_int_2_int_ok {a0 : List Arr2} {a1 : Arr2} {A_a0 : Option Addr} {c_a0 : Nat} {w : World} {res : Int} (h_a0 : Sl w A_a0 c_a0 2 (a0.map encArr2)) (F : slices_Index_2_int_2_int a0 a1 = some res) : Calls Try.prog 100 #[.slice A_a0 a0.length c_a0, .agg #[.int .i64 a1.at0, .int .i64 a1.at1]] w (Rt w (.int .i64 res)) := by
  refine calls_of_cw (args := [.slice A_a0 a0.length c_a0, .agg #[.int .i64 a1.at0, .int .i64 a1.at1]]) Try.func100 rfl rfl rfl rfl ?_
  have H := Hp.start w
  have R0 := H.ext
  unfold slices_Index_2_int_2_int at F
  refine CW.seq fun K1 hK1 => ?_
  refine CW.region ?_
  refine LW.go rfl rfl (OW.box rfl fun b1 w1 N1 => ?_)
  replace H := H.made' (k := 1) (t := 86) (enc := encN) (l := ([a1.at0, a1.at1] : List Int)) N1 N1.blk (fun _ => rfl) rfl (by first | decide | (simp; done) | (simp; omega))
  replace R0 := H.ext
  refine LW.pure rfl rfl (RV.assign rfl) ?_
  refine LW.nil (hK1 _ _ ?_)
  refine CW.seqJ (fun ρ wl1 => (slices_Index_2_int_2_int_k1 = some res ∧ ρ = [(4, .int .i64 0)] ∧ Hp w wl1 [])) ?_ ?_
  ·
    rintro _ wl1 ⟨F, rfl, H⟩
    have R0 := H.ext
    unfold slices_Index_2_int_2_int_k1 at F
    refine CW.seq fun K2 hK2 => ?_
    refine CW.region ?_
    refine LW.pure rfl rfl (RV.assign rfl) ?_
    refine LW.nil (hK2 _ _ ?_)
    refine CW.ret ?_
    obtain rfl := Option.some.inj F
    refine ⟨_, (ResOK.one rfl), ?_⟩
    refine ⟨(by first | rfl | simp), R0⟩
  ·
    intro K3 hK3 jK63
    refine CW.seq fun K4 hK4 => ?_
    refine CW.region ?_
    refine LW.pure rfl rfl (RV.move rfl) ?_
    refine LW.pure rfl rfl (RV.len Ts50 rfl) ?_
    refine LW.pure rfl rfl (RV.move rfl) ?_
    refine LW.nil (hK4 _ _ ?_)
    refine CW.block ?_
    refine CW.loop (fun meas ρ wl2 => ∃ (t8_1 : Int), slices_Index_2_int_2_int_L1 a0 a1 meas t8_1 = some res ∧ ρ = [(0, .slice A_a0 a0.length c_a0), (3, .pointer (some ⟨b1, 0, none⟩)), (4, .int .i64 0), (7, .int .i64 ((a0.length : Int))), (8, .int .i64 t8_1)] ∧ Hp w wl2 [.own (some ⟨b1, 0, none⟩) 2 86 1 (List.map encN (([a1.at0, a1.at1] : List Int)))]) FU ⟨_, ?_, ((0 : Int)), F, rfl, H⟩ ?_
    · exact ⟨rfl, rfl, rfl, rfl, rfl, trivial⟩
    rintro mk1 _ wl2 ⟨t8_1, F, rfl, H⟩
    have R0 := H.ext
    replace F := slices_Index_2_int_2_int_L1_s F
    obtain ⟨mk1, rfl, F⟩ := F
    generalize hrec1 : slices_Index_2_int_2_int_L1 a0 a1 mk1 = rec1 at F
    unfold slices_Index_2_int_2_int_B1 at F
    refine CW.seq fun K5 hK5 => ?_
    refine CW.region ?_
    refine LW.pure rfl rfl (RV.lss rfl rfl) ?_
    refine LW.nil (hK5 _ _ ?_)
    refine CW.seq fun K6 hK6 => ?_
    by_cases hp1 : t8_1 < ((a0.length : Int))
    ·
      replace F := ite_y hp1 F
      have hq1 := dec_t hp1
      refine CW.condT rfl hq1 ?_
      refine CW.skip (hK6 _ _ ?_)
      refine CW.seq fun K7 hK7 => ?_
      refine CW.block ?_
      refine CW.seq fun K8 hK8 => ?_
      refine CW.region ?_
      refine LW.pure rfl rfl (RV.move rfl) ?_
      refine LW.pure rfl rfl (RV.assign rfl) ?_
      refine LW.nil (hK8 _ _ ?_)
      refine CW.seq fun K9 hK9 => ?_
      obtain ⟨hg1, F⟩ := gd_some F
      obtain ⟨x1, hbx1, hx1, F⟩ := ix_some F
      obtain ⟨x2, hbx2, hx2, F⟩ := ix_some F
      obtain ⟨x3, hbx3, hx3, F⟩ := ix_some F
      refine CW.draw [] (fun _ => True) (.cons 0 1 (.cons 1 1 (.cons 2 1 (.cons 3 1 (.cons 4 1 (.cons 5 1 .nil)))))) mixed (by kernel_rfl) fun w2 E1 => ?_
      replace H := H.grow E1
      replace R0 := H.ext
      have hL1 := list2 hg1 hx1 hx2
      refine DW.fix rfl rfl rfl (fun _ EQ => RV.loadA (vs := [.int .i64 x1, .int .i64 x2]) [.int .i64 x1, .int .i64 x2] Tk86 rfl (fun j v hj => ((H.grow EQ).own 0 rfl).flat j v (by rw [hL1]; exact hj)) rfl rfl) ?_
      refine DW.fix rfl rfl rfl (fun _ EQ => RV.move rfl) ?_
      refine DW.fix rfl rfl rfl (fun _ EQ => RV.move rfl) ?_
      refine DW.fix rfl rfl rfl (fun _ EQ => RV.indexAddr Ts50 rfl rfl hbx3 (h_a0.addr_ hx3)) ?_
      refine DW.fix rfl rfl rfl (fun _ EQ => RV.loadA [.int .i64 x3.at0, .int .i64 x3.at1] Tk86 rfl ((h_a0.at_ hx3).ext (R0.trans EQ)) rfl rfl) ?_
      refine DW.fix rfl rfl rfl (fun _ EQ => RV.eqA Te86g (Te86 _ _ _ _ ) rfl rfl) ?_
      refine DW.nil (hK9 _ _ ?_)
      by_cases hp2 : ((x1 == x3.at0) && (x2 == x3.at1)) = true
      ·
        replace F := ite_y hp2 F
        have hq2 : ((x1 == x3.at0) && (x2 == x3.at1)) = true := hp2
        refine CW.condT rfl hq2 ?_
        refine CW.seq fun K10 hK10 => ?_
        refine CW.region ?_
        refine LW.pure rfl rfl (RV.move rfl) ?_
        refine LW.pure rfl rfl (RV.assign rfl) ?_
        refine LW.nil (hK10 _ _ ?_)
        refine CW.ret ?_
        obtain rfl := Option.some.inj F
        refine ⟨_, (ResOK.one rfl), ?_⟩
        refine ⟨(by first | rfl | simp), R0⟩
      ·
        replace F := ite_n hp2 F
        have hq2 : ((x1 == x3.at0) && (x2 == x3.at1)) = false := raw_f hp2
        refine CW.condF rfl hq2 ?_
        refine CW.skip (hK7 _ _ ?_)
        obtain ⟨hg2, F⟩ := gd_some F
        refine CW.region ?_
        refine LW.pure rfl rfl (RV.add rfl rfl hg2) ?_
        refine LW.pure rfl rfl (RV.move rfl) ?_
        refine LW.nil ?_
        subst hrec1
        refine ⟨mk1, Nat.lt_succ_self _, _, ?_, (t8_1 + 1), F, rfl, H⟩
        exact ⟨rfl, rfl, rfl, rfl, rfl, trivial⟩
    ·
      replace F := ite_n hp1 F
      have hq1 := dec_f hp1
      refine CW.condF rfl hq1 ?_
      replace H := H.pick (L' := []) [] (by decide) rfl
      replace R0 := H.ext
      refine CW.exit (jK63 _ _ ⟨_, ?_, ⟨F, rfl, H⟩⟩)
      exact ⟨rfl, trivial⟩
set_option maxRecDepth 20000 in
set_option maxHeartbeats 1000000 in
theorem slices_Contains_2_int_2_int_ok {a0 : List Arr2} {a1 : Arr2} {A_a0 : Option Addr} {c_a0 : Nat} {w : World} {res : Bool} (h_a0 : Sl w A_a0 c_a0 2 (a0.map encArr2)) (F : slices_Contains_2_int_2_int a0 a1 = some res) : Calls Try.prog 97 #[.slice A_a0 a0.length c_a0, .agg #[.int .i64 a1.at0, .int .i64 a1.at1]] w (Rt w (.bool res)) := by
  refine calls_of_cw (args := [.slice A_a0 a0.length c_a0, .agg #[.int .i64 a1.at0, .int .i64 a1.at1]]) Try.func97 rfl rfl rfl rfl ?_
  have H := Hp.start w
  have R0 := H.ext
  unfold slices_Contains_2_int_2_int at F
  refine CW.seq fun K1 hK1 => ?_
  refine CW.region ?_
  refine LW.go rfl rfl (OW.box rfl fun b1 w1 N1 => ?_)
  replace H := H.made' (k := 1) (t := 86) (enc := encN) (l := ([a1.at0, a1.at1] : List Int)) N1 N1.blk (fun _ => rfl) rfl (by first | decide | (simp; done) | (simp; omega))
  replace R0 := H.ext
  refine LW.pure rfl rfl (RV.assign rfl) ?_
  refine LW.nil (hK1 _ _ ?_)
  refine CW.seq fun K2 hK2 => ?_
  obtain ⟨hg1, F⟩ := gd_some F
  obtain ⟨x1, hbx1, hx1, F⟩ := ix_some F
  obtain ⟨x2, hbx2, hx2, F⟩ := ix_some F
  obtain ⟨r1, hr1, F⟩ := bnd_some F
  refine CW.region ?_
  refine LW.pure rfl rfl (RV.move rfl) ?_
  have hL1 := list2 hg1 hx1 hx2
  refine LW.pure rfl rfl (RV.loadA (vs := [.int .i64 x1, .int .i64 x2]) [.int .i64 x1, .int .i64 x2] Tk86 rfl (fun j v hj => (H.own 0 rfl).flat j v (by rw [hL1]; exact hj)) rfl rfl) ?_
  refine LW.go rfl rfl (OW.call Tc100 rfl (slices_Index_2_int_2_int_ok (a0 := a0) (a1 := (⟨x1, x2⟩ : Arr2)) (h_a0.ext R0) hr1) ?_)
  rintro _ w2 ⟨rfl, E1⟩
  refine ⟨_, rfl, ?_⟩
  replace H := H.grow E1
  replace R0 := H.ext
  refine LW.pure rfl rfl (RV.geq rfl rfl) ?_
  refine LW.pure rfl rfl (RV.assign rfl) ?_
  refine LW.nil (hK2 _ _ ?_)
  refine CW.ret ?_
  obtain rfl := Option.some.inj F
  refine ⟨_, (ResOK.one rfl), ?_⟩
  refine ⟨(by first | rfl | simp), R0⟩
set_option maxRecDepth 20000 in
set_option maxHeartbeats 1000000 in
theorem bulk_isRound_ok {a0 : List Arr2} {A_a0 : Option Addr} {c_a0 : Nat} {w : World} {res : Bool} (h_a0 : Sl w A_a0 c_a0 2 (a0.map encArr2)) (F : bulk_isRound a0 = some res) : Calls Try.prog 84 #[.slice A_a0 a0.length c_a0] w (Rt w (.bool res)) := by
  refine calls_of_cw (args := [.slice A_a0 a0.length c_a0]) Try.func84 rfl rfl rfl rfl ?_
  have H := Hp.start w
  have R0 := H.ext
  unfold bulk_isRound at F
  refine CW.seq fun K1 hK1 => ?_
  refine CW.region ?_
  refine LW.pure rfl rfl (RV.assign rfl) ?_
  refine LW.nil (hK1 _ _ ?_)
  refine CW.seq fun K2 hK2 => ?_
  refine CW.seqJ (fun ρ wl1 => (∃ (t14_1 : Bool), bulk_isRound_k3 a0 t14_1 = some res ∧ ρ = [(0, .slice A_a0 a0.length c_a0), (2, .bool false), (14, .bool t14_1)] ∧ Hp w wl1 [])) ?_ ?_
  ·
    rintro _ wl1 ⟨t14_1, F, rfl, H⟩
    have R0 := H.ext
    unfold bulk_isRound_k3 at F
    by_cases hp1 : t14_1 = true
    ·
      replace F := ite_y hp1 F
      have hq1 : t14_1 = true := hp1
      refine CW.condT rfl hq1 ?_
      refine CW.seq fun K3 hK3 => ?_
      refine CW.region ?_
      refine LW.pure rfl rfl (RV.assign rfl) ?_
      refine LW.nil (hK3 _ _ ?_)
      refine CW.ret ?_
      obtain rfl := Option.some.inj F
      refine ⟨_, (ResOK.one rfl), ?_⟩
      refine ⟨(by first | rfl | simp), R0⟩
    ·
      replace F := ite_n hp1 F
      have hq1 : t14_1 = false := raw_f hp1
      refine CW.condF rfl hq1 ?_
      refine CW.skip (hK2 _ _ ?_)
      refine CW.seqJ (fun ρ wl2 => (bulk_isRound_k1 = some res ∧ ρ = [(2, .bool false)] ∧ Hp w wl2 [])) ?_ ?_
      ·
        rintro _ wl2 ⟨F, rfl, H⟩
        have R0 := H.ext
        unfold bulk_isRound_k1 at F
        refine CW.seq fun K4 hK4 => ?_
        refine CW.region ?_
        refine LW.pure rfl rfl (RV.assign rfl) ?_
        refine LW.nil (hK4 _ _ ?_)
        refine CW.ret ?_
        obtain rfl := Option.some.inj F
        refine ⟨_, (ResOK.one rfl), ?_⟩
        refine ⟨(by first | rfl | simp), R0⟩
      ·
        intro K5 hK5 jK77
        refine CW.seq fun K6 hK6 => ?_
        refine CW.region ?_
        refine LW.pure rfl rfl (RV.move rfl) ?_
        refine LW.pure rfl rfl (RV.len Ts50 rfl) ?_
        refine LW.pure rfl rfl (RV.move rfl) ?_
        refine LW.nil (hK6 _ _ ?_)
        refine CW.block ?_
        refine CW.loop (fun meas ρ wl3 => ∃ (t17_1 : Int), bulk_isRound_L1 a0 meas t17_1 = some res ∧ ρ = [(0, .slice A_a0 a0.length c_a0), (2, .bool false), (15, .slice A_a0 a0.length c_a0), (16, .int .i64 ((a0.length : Int))), (17, .int .i64 t17_1)] ∧ Hp w wl3 []) FU ⟨_, ?_, ((0 : Int)), F, rfl, H⟩ ?_
        · exact ⟨rfl, rfl, rfl, rfl, rfl, trivial⟩
        rintro mk1 _ wl3 ⟨t17_1, F, rfl, H⟩
        have R0 := H.ext
        replace F := bulk_isRound_L1_s F
        obtain ⟨mk1, rfl, F⟩ := F
        generalize hrec1 : bulk_isRound_L1 a0 mk1 = rec1 at F
        unfold bulk_isRound_B1 at F
        refine CW.seq fun K7 hK7 => ?_
        refine CW.region ?_
        refine LW.pure rfl rfl (RV.lss rfl rfl) ?_
        refine LW.nil (hK7 _ _ ?_)
        refine CW.seq fun K8 hK8 => ?_
        by_cases hp2 : t17_1 < ((a0.length : Int))
        ·
          replace F := ite_y hp2 F
          have hq2 := dec_t hp2
          refine CW.condT rfl hq2 ?_
          refine CW.skip (hK8 _ _ ?_)
          refine CW.seq fun K9 hK9 => ?_
          refine CW.block ?_
          refine CW.seq fun K10 hK10 => ?_
          obtain ⟨x1, hbx1, hx1, F⟩ := ix_some F
          refine CW.region ?_
          refine LW.pure rfl rfl (RV.move rfl) ?_
          refine LW.pure rfl rfl (RV.indexAddr Ts50 rfl rfl hbx1 (h_a0.addr_ hx1)) ?_
          refine LW.pure rfl rfl (RV.loadA [.int .i64 x1.at0, .int .i64 x1.at1] Tk86 rfl ((h_a0.at_ hx1).ext R0) rfl rfl) ?_
          refine LW.go rfl rfl (OW.alloc Tz86 fun b1 w1 N1 => ?_)
          replace H := H.made' (k := 1) (t := 86) (enc := encN) (l := ([0, 0] : List Int)) N1 N1.blk (fun _ => rfl) rfl (by first | decide | (simp; done) | (simp; omega))
          replace R0 := H.ext
          refine LW.pure rfl rfl (RV.assign rfl) ?_
          refine LW.go rfl rfl (OW.storeArr (l' := ([x1.at0, x1.at1] : List Int)) (vs := [.int .i64 x1.at0, .int .i64 x1.at1]) Tk86 rfl rfl (H.own 0 rfl) (fun _ => rfl) (by first | rfl | omega | (simp; done) | (simp; omega)) rfl rfl rfl rfl fun w2 M1 O1 => ?_)
          replace H : Hp w w2 [.own (some ⟨b1, 0, none⟩) 2 86 1 (List.map encN (([x1.at0, x1.at1] : List Int)))] := H.mod 0 rfl M1 O1 (.inl rfl)
          replace R0 := H.ext
          refine LW.nil (hK10 _ _ ?_)
          refine CW.seq fun K11 hK11 => ?_
          obtain ⟨hg1, F⟩ := gd_some F
          obtain ⟨hg2, F⟩ := gd_some F
          obtain ⟨x2, hbx2, hx2, F⟩ := ix_some F
          refine CW.region ?_
          refine LW.pure rfl rfl (RV.move rfl) ?_
          refine LW.pure rfl rfl (RV.move rfl) ?_
          refine LW.pure rfl rfl (RV.add rfl rfl hg1) ?_
          refine LW.pure rfl rfl (RV.move rfl) ?_
          refine LW.pure rfl rfl (RV.len Ts50 rfl) ?_
          refine LW.pure rfl rfl (RV.rem rfl rfl hg2) ?_
          refine LW.pure rfl rfl (RV.indexAddr Ts50 rfl rfl hbx2 (h_a0.addr_ hx2)) ?_
          refine LW.pure rfl rfl (RV.loadA [.int .i64 x2.at0, .int .i64 x2.at1] Tk86 rfl ((h_a0.at_ hx2).ext R0) rfl rfl) ?_
          refine LW.go rfl rfl (OW.alloc Tz86 fun b2 w3 N2 => ?_)
          replace H := H.made' (k := 1) (t := 86) (enc := encN) (l := ([0, 0] : List Int)) N2 N2.blk (fun _ => rfl) rfl (by first | decide | (simp; done) | (simp; omega))
          replace R0 := H.ext
          refine LW.go rfl rfl (OW.storeArr (l' := ([x2.at0, x2.at1] : List Int)) (vs := [.int .i64 x2.at0, .int .i64 x2.at1]) Tk86 rfl rfl (H.own 0 rfl) (fun _ => rfl) (by first | rfl | omega | (simp; done) | (simp; omega)) rfl rfl rfl rfl fun w4 M2 O2 => ?_)
          replace H : Hp w w4 [.own (some ⟨b2, 0, none⟩) 2 86 1 (List.map encN (([x2.at0, x2.at1] : List Int))), .own (some ⟨b1, 0, none⟩) 2 86 1 (List.map encN (([x1.at0, x1.at1] : List Int)))] := H.mod 0 rfl M2 O2 (.inl rfl)
          replace R0 := H.ext
          refine LW.nil (hK11 _ _ ?_)
          refine CW.seqJ (fun ρ wl4 => (∃ (t45_1 : Bool), bulk_isRound_k2 t17_1 rec1 t45_1 = some res ∧ ρ = [(0, .slice A_a0 a0.length c_a0), (2, .bool false), (15, .slice A_a0 a0.length c_a0), (16, .int .i64 ((a0.length : Int))), (17, .int .i64 t17_1), (45, .bool t45_1)] ∧ Hp w wl4 [])) ?_ ?_
          ·
            rintro _ wl4 ⟨t45_1, F, rfl, H⟩
            have R0 := H.ext
            unfold bulk_isRound_k2 at F
            by_cases hp3 : t45_1 = true
            ·
              replace F := ite_y hp3 F
              have hq3 : t45_1 = true := hp3
              refine CW.condT rfl hq3 ?_
              refine CW.seq fun K12 hK12 => ?_
              refine CW.region ?_
              refine LW.pure rfl rfl (RV.assign rfl) ?_
              refine LW.nil (hK12 _ _ ?_)
              refine CW.ret ?_
              obtain rfl := Option.some.inj F
              refine ⟨_, (ResOK.one rfl), ?_⟩
              refine ⟨(by first | rfl | simp), R0⟩
            ·
              replace F := ite_n hp3 F
              have hq3 : t45_1 = false := raw_f hp3
              refine CW.condF rfl hq3 ?_
              refine CW.skip (hK9 _ _ ?_)
              obtain ⟨hg3, F⟩ := gd_some F
              refine CW.region ?_
              refine LW.pure rfl rfl (RV.add rfl rfl hg3) ?_
              refine LW.pure rfl rfl (RV.move rfl) ?_
              refine LW.nil ?_
              subst hrec1
              refine ⟨mk1, Nat.lt_succ_self _, _, ?_, (t17_1 + 1), F, rfl, H⟩
              exact ⟨rfl, rfl, rfl, rfl, rfl, trivial⟩
          ·
            intro K13 hK13 jK99
            obtain ⟨hg4, F⟩ := gd_some F
            obtain ⟨x3, hbx3, hx3, F⟩ := ix_some F
            obtain ⟨hg5, F⟩ := gd_some F
            obtain ⟨x4, hbx4, hx4, F⟩ := ix_some F
            by_cases hp4 : x3 = x4
            ·
              replace F := ite_y hp4 F
              have hq4 := dec_t hp4
              obtain ⟨hg6, F⟩ := gd_some F
              obtain ⟨hg7, F⟩ := gd_some F
              obtain ⟨x5, hbx5, hx5, F⟩ := ix_some F
              obtain ⟨x6, hbx6, hx6, F⟩ := ix_some F
              obtain ⟨r1, hr1, F⟩ := bnd_some F
              refine CW.draw [] (fun _ => True) (.cons 0 1 (.cons 1 1 (.cons 2 1 (.cons 3 1 (.cons 4 1 (.cons 5 1 (.cons 6 1 (.cons 7 1 (.cons 8 1 (.cons 9 1 (.cons 10 1 (.cons 11 1 (.cons 12 1 (.cons 13 1 (.cons 14 0 (.cons 15 1 .nil)))))))))))))))) mixed (by kernel_rfl) fun w5 E1 => ?_
              replace H := H.grow E1
              replace R0 := H.ext
              refine DW.fix rfl rfl rfl (fun _ EQ => RV.move rfl) ?_
              refine DW.fix rfl rfl rfl (fun _ EQ => RV.rem rfl rfl hg4) ?_
              refine DW.fix rfl rfl rfl (fun _ EQ => RV.indexArr Ta86 rfl rfl ⟨hbx3.1, (by first | exact hbx3.2 | omega | (have q := hbx3.2; simp at q; omega))⟩) ?_
              refine DW.fix rfl rfl rfl (fun _ EQ => RV.load1 Tk3 rfl (((H.grow EQ).own 1 rfl).sl.at_ hx3) rfl) ?_
              refine DW.fix rfl rfl rfl (fun _ EQ => RV.move rfl) ?_
              refine DW.fix rfl rfl rfl (fun _ EQ => RV.rem rfl rfl hg5) ?_
              refine DW.fix rfl rfl rfl (fun _ EQ => RV.indexArr Ta86 rfl rfl ⟨hbx4.1, (by first | exact hbx4.2 | omega | (have q := hbx4.2; simp at q; omega))⟩) ?_
              refine DW.fix rfl rfl rfl (fun _ EQ => RV.load1 Tk3 rfl (((H.grow EQ).own 0 rfl).sl.at_ hx4) rfl) ?_
              refine DW.fix rfl rfl rfl (fun _ EQ => RV.nei rfl rfl) ?_
              refine DW.fix rfl rfl rfl (fun _ EQ => RV.move rfl) ?_
              refine DW.fixYB rfl rfl rfl rfl rfl (not_f hq4) (fun _ EQ => RV.move rfl) ?_
              refine DW.fixYB rfl rfl rfl rfl rfl (not_f hq4) (fun _ EQ => RV.move rfl) ?_
              refine DW.fixYB rfl rfl rfl rfl rfl (not_f hq4) (fun _ EQ => RV.cutH (l := a0) Ts50 rfl rfl hg6 (h_a0.ext R0).le rfl) ?_
              have hL1 := list2 hg7 hx5 hx6
              refine DW.fixYB rfl rfl rfl rfl rfl (not_f hq4) (fun _ EQ => RV.loadA (vs := [.int .i64 x5, .int .i64 x6]) [.int .i64 x5, .int .i64 x6] Tk86 rfl (fun j v hj => ((H.grow EQ).own 1 rfl).flat j v (by rw [hL1]; exact hj)) rfl rfl) ?_
              refine DW.soleYB rfl rfl rfl rfl rfl (not_f hq4) (OW.call Tc97 rfl (slices_Contains_2_int_2_int_ok (a0 := (List.take (Int.toNat t17_1) a0)) (a1 := (⟨x5, x6⟩ : Arr2)) ((h_a0.ext R0).cutH hg6) hr1) ?_)
              rintro _ w6 ⟨rfl, E2⟩
              refine ⟨_, rfl, fun _ => E2, ModX.ext E2, ?_⟩
              replace H := H.grow E2
              replace R0 := H.ext
              refine DW.fix rfl rfl rfl (fun _ EQ => RV.pickFB rfl (not_f hq4) rfl) ?_
              replace H := H.pick (L' := []) [] (by decide) rfl
              replace R0 := H.ext
              refine DW.nil (jK99 _ _ ⟨_, ?_, ⟨r1, F, rfl, H⟩⟩)
              exact ⟨rfl, rfl, rfl, rfl, rfl, rfl, trivial⟩
            ·
              replace F := ite_n hp4 F
              have hq4 := dec_f hp4
              refine CW.draw [] (fun _ => True) (.cons 0 1 (.cons 1 1 (.cons 2 1 (.cons 3 1 (.cons 4 1 (.cons 5 1 (.cons 6 1 (.cons 7 1 (.cons 8 1 (.cons 9 1 (.cons 10 1 (.cons 11 1 (.cons 12 1 (.cons 13 1 (.cons 14 0 (.cons 15 1 .nil)))))))))))))))) mixed (by kernel_rfl) fun w7 E3 => ?_
              replace H := H.grow E3
              replace R0 := H.ext
              refine DW.fix rfl rfl rfl (fun _ EQ => RV.move rfl) ?_
              refine DW.fix rfl rfl rfl (fun _ EQ => RV.rem rfl rfl hg4) ?_
              refine DW.fix rfl rfl rfl (fun _ EQ => RV.indexArr Ta86 rfl rfl ⟨hbx3.1, (by first | exact hbx3.2 | omega | (have q := hbx3.2; simp at q; omega))⟩) ?_
              refine DW.fix rfl rfl rfl (fun _ EQ => RV.load1 Tk3 rfl (((H.grow EQ).own 1 rfl).sl.at_ hx3) rfl) ?_
              refine DW.fix rfl rfl rfl (fun _ EQ => RV.move rfl) ?_
              refine DW.fix rfl rfl rfl (fun _ EQ => RV.rem rfl rfl hg5) ?_
              refine DW.fix rfl rfl rfl (fun _ EQ => RV.indexArr Ta86 rfl rfl ⟨hbx4.1, (by first | exact hbx4.2 | omega | (have q := hbx4.2; simp at q; omega))⟩) ?_
              refine DW.fix rfl rfl rfl (fun _ EQ => RV.load1 Tk3 rfl (((H.grow EQ).own 0 rfl).sl.at_ hx4) rfl) ?_
              refine DW.fix rfl rfl rfl (fun _ EQ => RV.nei rfl rfl) ?_
              refine DW.fix rfl rfl rfl (fun _ EQ => RV.move rfl) ?_
              refine DW.fixNB rfl rfl rfl rfl rfl (ne_beq (v := true) (not_t hq4) rfl) ?_
              refine DW.fixNB rfl rfl rfl rfl rfl (ne_beq (v := true) (not_t hq4) rfl) ?_
              refine DW.fixNB rfl rfl rfl rfl rfl (ne_beq (v := true) (not_t hq4) rfl) ?_
              refine DW.fixNB rfl rfl rfl rfl rfl (ne_beq (v := true) (not_t hq4) rfl) ?_
              refine DW.soleNB rfl rfl rfl rfl rfl (ne_beq (v := true) (not_t hq4) rfl) ?_
              refine DW.fix rfl rfl rfl (fun _ EQ => RV.pickTB rfl (not_t hq4) rfl) ?_
              replace H := H.pick (L' := []) [] (by decide) rfl
              replace R0 := H.ext
              refine DW.nil (jK99 _ _ ⟨_, ?_, ⟨true, F, rfl, H⟩⟩)
              exact ⟨rfl, rfl, rfl, rfl, rfl, rfl, trivial⟩
        ·
          replace F := ite_n hp2 F
          have hq2 := dec_f hp2
          refine CW.condF rfl hq2 ?_
          refine CW.exit (jK77 _ _ ⟨_, ?_, ⟨F, rfl, H⟩⟩)
          exact ⟨rfl, trivial⟩
  ·
    intro K14 hK14 jK100
    by_cases hp5 : ((a0.length : Int)) < 4
    ·
      replace F := ite_y hp5 F
      have hq5 := dec_t hp5
      refine CW.region ?_
      refine LW.pure rfl rfl (RV.move rfl) ?_
      refine LW.pure rfl rfl (RV.len Ts50 rfl) ?_
      refine LW.pure rfl rfl (RV.lss rfl rfl) ?_
      refine LW.pure rfl rfl (RV.move rfl) ?_
      refine LW.noB rfl rfl rfl rfl (ne_beq (v := true) hq5 rfl) ?_
      refine LW.noB rfl rfl rfl rfl (ne_beq (v := true) hq5 rfl) ?_
      refine LW.noB rfl rfl rfl rfl (ne_beq (v := true) hq5 rfl) ?_
      refine LW.noB rfl rfl rfl rfl (ne_beq (v := true) hq5 rfl) ?_
      refine LW.pure rfl rfl (RV.pickTB rfl hq5 rfl) ?_
      refine LW.nil (jK100 _ _ ⟨_, ?_, ⟨true, F, rfl, H⟩⟩)
      exact ⟨rfl, rfl, rfl, trivial⟩
    ·
      replace F := ite_n hp5 F
      have hq5 := dec_f hp5
      obtain ⟨hg8, F⟩ := gd_some F
      refine CW.region ?_
      refine LW.pure rfl rfl (RV.move rfl) ?_
      refine LW.pure rfl rfl (RV.len Ts50 rfl) ?_
      refine LW.pure rfl rfl (RV.lss rfl rfl) ?_
      refine LW.pure rfl rfl (RV.move rfl) ?_
      refine LW.pureYB rfl rfl rfl rfl hq5 (RV.move rfl) ?_
      refine LW.pureYB rfl rfl rfl rfl hq5 (RV.len Ts50 rfl) ?_
      refine LW.pureYB rfl rfl rfl rfl hq5 (RV.rem rfl rfl hg8) ?_
      refine LW.pureYB rfl rfl rfl rfl hq5 (RV.nei rfl rfl) ?_
      refine LW.pure rfl rfl (RV.pickFB rfl hq5 rfl) ?_
      refine LW.nil (jK100 _ _ ⟨_, ?_, ⟨(!(decide ((Int.tmod ((a0.length : Int)) 2) = 0))), F, rfl, H⟩⟩)
      exact ⟨rfl, rfl, rfl, trivial⟩
end Go.D7

set_option linter.unusedVariables false
set_option linter.unusedSimpArgs false
namespace Go.D7
open Go.Tb Go.Proofs Go.RowKit
theorem Tc53 : callable Try.prog 53 = true := by kernel_rfl
theorem Tc84 : callable Try.prog 84 = true := by kernel_rfl
set_option maxRecDepth 20000 in
set_option maxHeartbeats 1000000 in
theorem bulk_Along_ok {a0 : Trade} {a1 : List (List Int)} {a2 : List Arr2} {A_a0_supply : Option Addr} {c_a0_supply : Nat} {A_a0_demand : Option Addr} {c_a0_demand : Nat} {A_a0_cost : Option Addr} {c_a0_cost : Nat} {A_a1 : Option Addr} {c_a1 : Nat} {A_a2 : Option Addr} {c_a2 : Nat} {w : World} {res : (List (List Int)) × Int × Int} (h_a0_supply : Sl w A_a0_supply c_a0_supply 1 (a0.supply.map encN)) (h_a0_demand : Sl w A_a0_demand c_a0_demand 1 (a0.demand.map encN)) (h_a0_cost : Sl2 w A_a0_cost c_a0_cost 1 encN a0.cost) (h_a1 : Sl2 w A_a1 c_a1 1 encN a1) (h_a2 : Sl w A_a2 c_a2 2 (a2.map encArr2)) (F : bulk_Along a0 a1 a2 = some res) : Calls Try.prog 53 #[.agg #[.slice A_a0_supply a0.supply.length c_a0_supply, .slice A_a0_demand a0.demand.length c_a0_demand, .slice A_a0_cost a0.cost.length c_a0_cost], .slice A_a1 a1.length c_a1, .slice A_a2 a2.length c_a2] w (fun e w' => ∃ (A0 : Option Addr) (c0 : Nat) (hs0 : List (Option Addr × Nat)), e = .returned (.tuple #[.slice A0 res.1.length c0, .int .i64 res.2.1, .int .i64 res.2.2]) ∧ Hp w w' [.tab A0 c0 22 hs0 3 1 (encM encN res.1)]) := by
  refine calls_of_cw (args := [.agg #[.slice A_a0_supply a0.supply.length c_a0_supply, .slice A_a0_demand a0.demand.length c_a0_demand, .slice A_a0_cost a0.cost.length c_a0_cost], .slice A_a1 a1.length c_a1, .slice A_a2 a2.length c_a2]) Try.func53 rfl rfl rfl rfl ?_
  have H := Hp.start w
  have R0 := H.ext
  unfold bulk_Along at F
  refine CW.seq fun K1 hK1 => ?_
  refine CW.region ?_
  refine LW.go rfl rfl (OW.box rfl fun b1 w1 N1 => ?_)
  replace H := H.new N1 N1.blk
  replace R0 := H.ext
  refine LW.pure rfl rfl (RV.assign rfl) ?_
  refine LW.pure rfl rfl (RV.assign rfl) ?_
  refine LW.pure rfl rfl (RV.assign rfl) ?_
  refine LW.nil (hK1 _ _ ?_)
  refine CW.seq fun K2 hK2 => ?_
  refine CW.seq fun K3 hK3 => ?_
  obtain ⟨r5, hr5, F⟩ := bnd_some F
  refine CW.region ?_
  refine LW.pure rfl rfl (RV.loadA [.slice A_a0_supply a0.supply.length c_a0_supply, .slice A_a0_demand a0.demand.length c_a0_demand, .slice A_a0_cost a0.cost.length c_a0_cost] Tk25 rfl (H.blk 0 rfl).cells rfl rfl) ?_
  refine LW.pure rfl rfl (RV.move rfl) ?_
  refine LW.go rfl rfl (OW.call Tc34 rfl (bulk_CheckPlan_ok (a0 := a0) (a1 := a1) (h_a0_supply.ext R0) (h_a0_demand.ext R0) (h_a0_cost.ext R0) (h_a1.ext R0) hr5) ?_)
  rintro _ w2 ⟨rfl, E1⟩
  refine ⟨_, rfl, ?_⟩
  replace H := H.grow E1
  replace R0 := H.ext
  refine LW.pure rfl rfl (RV.assign rfl) ?_
  refine LW.nil (hK3 _ _ ?_)
  refine CW.seq fun K4 hK4 => ?_
  refine CW.region ?_
  refine LW.pure rfl rfl (RV.move rfl) ?_
  refine LW.pure rfl rfl (RV.nei rfl rfl) ?_
  refine LW.nil (hK4 _ _ ?_)
  by_cases hp1 : r5 = 0
  ·
    replace F := ite_y hp1 F
    have hq1 := dec_t hp1
    refine CW.condF rfl (not_f hq1) ?_
    refine CW.skip (hK2 _ _ ?_)
    refine CW.seq fun K5 hK5 => ?_
    refine CW.seq fun K6 hK6 => ?_
    refine CW.region ?_
    refine LW.pure rfl rfl (RV.move rfl) ?_
    refine LW.pure rfl rfl (RV.len Ts50 rfl) ?_
    refine LW.pure rfl rfl (RV.gtr rfl rfl) ?_
    refine LW.nil (hK6 _ _ ?_)
    by_cases hp2 : (8 : Int) < ((a2.length : Int))
    ·
      replace F := ite_y hp2 F
      have hq2 := dec_t hp2
      refine CW.condT rfl hq2 ?_
      refine CW.seq fun K7 hK7 => ?_
      refine CW.region ?_
      refine LW.pure rfl rfl (RV.assign rfl) ?_
      refine LW.pure rfl rfl (RV.assign rfl) ?_
      refine LW.pure rfl rfl (RV.assign rfl) ?_
      refine LW.nil (hK7 _ _ ?_)
      refine CW.ret ?_
      obtain rfl := Option.some.inj F
      refine ⟨_, (ResOK.three rfl rfl rfl), ?_⟩
      replace H := H.nilTab encN 22 3 1
      replace R0 := H.ext
      replace H := H.pick (L' := [.tab none 0 22 ([]) 3 1 (encM encN (([] : List (List Int))))]) [0] (by decide) rfl
      replace R0 := H.ext
      exact ⟨none, 0, ([]), (by first | rfl | (simp; done) | (simp; omega)), H⟩
    ·
      replace F := ite_n hp2 F
      have hq2 := dec_f hp2
      refine CW.condF rfl hq2 ?_
      refine CW.skip (hK5 _ _ ?_)
      refine CW.seqJ (fun ρ wl1 => (bulk_Along_k1 a1 a2 = some res ∧ ρ = [(1, .slice A_a1 a1.length c_a1), (2, .slice A_a2 a2.length c_a2), (6, .slice none 0 0), (7, .int .i64 0), (8, .int .i64 0)] ∧ Hp w wl1 [])) ?_ ?_
      ·
        rintro _ wl1 ⟨F, rfl, H⟩
        have R0 := H.ext
        unfold bulk_Along_k1 at F
        refine CW.seq fun K8 hK8 => ?_
        refine CW.seq fun K9 hK9 => ?_
        obtain ⟨r1, hr1, F⟩ := bnd_some F
        refine CW.region ?_
        refine LW.pure rfl rfl (RV.move rfl) ?_
        refine LW.go rfl rfl (OW.call Tc84 rfl (bulk_isRound_ok (a0 := a2) (h_a2.ext R0) hr1) ?_)
        rintro _ w3 ⟨rfl, E2⟩
        refine ⟨_, rfl, ?_⟩
        replace H := H.grow E2
        replace R0 := H.ext
        refine LW.pure rfl rfl (RV.not rfl) ?_
        refine LW.nil (hK9 _ _ ?_)
        by_cases hp3 : r1 = true
        ·
          replace F := ite_y hp3 F
          have hq3 : r1 = true := hp3
          refine CW.condF rfl (not_f hq3) ?_
          refine CW.skip (hK8 _ _ ?_)
          refine CW.seq fun K10 hK10 => ?_
          obtain ⟨r2, hr2, F⟩ := bnd_some F
          refine CW.region ?_
          refine LW.pure rfl rfl (RV.move rfl) ?_
          refine LW.pure rfl rfl (RV.move rfl) ?_
          refine LW.go rfl rfl (OW.call Tc85 rfl (bulk_along_ok (a0 := a1) (a1 := a2) (h_a1.ext R0) (h_a2.ext R0) hr2) ?_)
          rintro _ w4 ⟨A45_0, c45_0, hs45_0, rfl, E3⟩
          refine ⟨_, rfl, ?_⟩
          replace H : Hp w w4 [.tab A45_0 c45_0 22 hs45_0 3 1 (encM encN r2.1)] := H.append E3
          replace R0 := H.ext
          refine LW.pure rfl rfl (RV.move rfl) ?_
          refine LW.pure rfl rfl (RV.extract rfl rfl) ?_
          refine LW.pure rfl rfl (RV.extract rfl rfl) ?_
          refine LW.pure rfl rfl (RV.assign rfl) ?_
          refine LW.pure rfl rfl (RV.assign rfl) ?_
          refine LW.nil (hK10 _ _ ?_)
          refine CW.seq fun K11 hK11 => ?_
          refine CW.region ?_
          refine LW.pure rfl rfl (RV.move rfl) ?_
          refine LW.pure rfl rfl (RV.move rfl) ?_
          refine LW.pure rfl rfl (RV.assign rfl) ?_
          refine LW.pure rfl rfl (RV.assign rfl) ?_
          refine LW.pure rfl rfl (RV.assign rfl) ?_
          refine LW.nil (hK11 _ _ ?_)
          refine CW.ret ?_
          obtain rfl := Option.some.inj F
          refine ⟨_, (ResOK.three rfl rfl rfl), ?_⟩
          exact ⟨A45_0, c45_0, hs45_0, (by first | rfl | (simp; done) | (simp; omega)), H⟩
        ·
          replace F := ite_n hp3 F
          have hq3 : r1 = false := raw_f hp3
          refine CW.condT rfl (not_t hq3) ?_
          refine CW.seq fun K12 hK12 => ?_
          refine CW.region ?_
          refine LW.pure rfl rfl (RV.assign rfl) ?_
          refine LW.pure rfl rfl (RV.assign rfl) ?_
          refine LW.pure rfl rfl (RV.assign rfl) ?_
          refine LW.nil (hK12 _ _ ?_)
          refine CW.ret ?_
          obtain rfl := Option.some.inj F
          refine ⟨_, (ResOK.three rfl rfl rfl), ?_⟩
          replace H := H.nilTab encN 22 3 1
          replace R0 := H.ext
          exact ⟨none, 0, ([]), (by first | rfl | (simp; done) | (simp; omega)), H⟩
      ·
        intro K13 hK13 jK84
        refine CW.seq fun K14 hK14 => ?_
        refine CW.region ?_
        refine LW.pure rfl rfl (RV.move rfl) ?_
        refine LW.pure rfl rfl (RV.len Ts50 rfl) ?_
        refine LW.pure rfl rfl (RV.move rfl) ?_
        refine LW.nil (hK14 _ _ ?_)
        refine CW.block ?_
        refine CW.loop (fun meas ρ wl2 => ∃ (t25_1 : Int), bulk_Along_L1 a0 a1 a2 meas t25_1 = some res ∧ ρ = [(1, .slice A_a1 a1.length c_a1), (2, .slice A_a2 a2.length c_a2), (3, .pointer (some (⟨b1, 0, none⟩))), (6, .slice none 0 0), (7, .int .i64 0), (8, .int .i64 0), (23, .slice A_a2 a2.length c_a2), (24, .int .i64 ((a2.length : Int))), (25, .int .i64 t25_1)] ∧ Hp w wl2 [.blk b1 25 [.slice A_a0_supply a0.supply.length c_a0_supply, .slice A_a0_demand a0.demand.length c_a0_demand, .slice A_a0_cost a0.cost.length c_a0_cost]]) FU ⟨_, ?_, ((0 : Int)), F, rfl, H⟩ ?_
        · exact ⟨rfl, rfl, rfl, rfl, rfl, rfl, rfl, rfl, rfl, trivial⟩
        rintro mk1 _ wl2 ⟨t25_1, F, rfl, H⟩
        have R0 := H.ext
        replace F := bulk_Along_L1_s F
        obtain ⟨mk1, rfl, F⟩ := F
        generalize hrec1 : bulk_Along_L1 a0 a1 a2 mk1 = rec1 at F
        unfold bulk_Along_B1 at F
        refine CW.seq fun K15 hK15 => ?_
        refine CW.region ?_
        refine LW.pure rfl rfl (RV.lss rfl rfl) ?_
        refine LW.nil (hK15 _ _ ?_)
        refine CW.seq fun K16 hK16 => ?_
        by_cases hp4 : t25_1 < ((a2.length : Int))
        ·
          replace F := ite_y hp4 F
          have hq4 := dec_t hp4
          refine CW.condT rfl hq4 ?_
          refine CW.skip (hK16 _ _ ?_)
          refine CW.seq fun K17 hK17 => ?_
          refine CW.block ?_
          refine CW.seq fun K18 hK18 => ?_
          obtain ⟨x1, hbx1, hx1, F⟩ := ix_some F
          refine CW.region ?_
          refine LW.pure rfl rfl (RV.indexAddr Ts50 rfl rfl hbx1 (h_a2.addr_ hx1)) ?_
          refine LW.pure rfl rfl (RV.loadA [.int .i64 x1.at0, .int .i64 x1.at1] Tk86 rfl ((h_a2.at_ hx1).ext R0) rfl rfl) ?_
          refine LW.go rfl rfl (OW.alloc Tz86 fun b2 w5 N2 => ?_)
          replace H := H.made' (k := 1) (t := 86) (enc := encN) (l := ([0, 0] : List Int)) N2 N2.blk (fun _ => rfl) rfl (by first | decide | (simp; done) | (simp; omega))
          replace R0 := H.ext
          refine LW.go rfl rfl (OW.storeArr (l' := ([x1.at0, x1.at1] : List Int)) (vs := [.int .i64 x1.at0, .int .i64 x1.at1]) Tk86 rfl rfl (H.own 0 rfl) (fun _ => rfl) (by first | rfl | omega | (simp; done) | (simp; omega)) rfl rfl rfl rfl fun w6 M1 O1 => ?_)
          replace H : Hp w w6 [.own (some ⟨b2, 0, none⟩) 2 86 1 (List.map encN (([x1.at0, x1.at1] : List Int))), .blk b1 25 [.slice A_a0_supply a0.supply.length c_a0_supply, .slice A_a0_demand a0.demand.length c_a0_demand, .slice A_a0_cost a0.cost.length c_a0_cost]] := H.mod 0 rfl M1 O1 (.inl rfl)
          replace R0 := H.ext
          refine LW.nil (hK18 _ _ ?_)
          refine CW.seqJ (fun ρ wl3 => (∃ (t46_1 : Bool), bulk_Along_k2 t25_1 rec1 t46_1 = some res ∧ ρ = [(1, .slice A_a1 a1.length c_a1), (2, .slice A_a2 a2.length c_a2), (3, .pointer (some (⟨b1, 0, none⟩))), (6, .slice none 0 0), (7, .int .i64 0), (8, .int .i64 0), (23, .slice A_a2 a2.length c_a2), (24, .int .i64 ((a2.length : Int))), (25, .int .i64 t25_1), (46, .bool t46_1)] ∧ Hp w wl3 [.blk b1 25 [.slice A_a0_supply a0.supply.length c_a0_supply, .slice A_a0_demand a0.demand.length c_a0_demand, .slice A_a0_cost a0.cost.length c_a0_cost]])) ?_ ?_
          ·
            rintro _ wl3 ⟨t46_1, F, rfl, H⟩
            have R0 := H.ext
            unfold bulk_Along_k2 at F
            by_cases hp5 : t46_1 = true
            ·
              replace F := ite_y hp5 F
              have hq5 : t46_1 = true := hp5
              refine CW.condT rfl hq5 ?_
              refine CW.seq fun K19 hK19 => ?_
              refine CW.region ?_
              refine LW.pure rfl rfl (RV.assign rfl) ?_
              refine LW.pure rfl rfl (RV.assign rfl) ?_
              refine LW.pure rfl rfl (RV.assign rfl) ?_
              refine LW.nil (hK19 _ _ ?_)
              refine CW.ret ?_
              obtain rfl := Option.some.inj F
              refine ⟨_, (ResOK.three rfl rfl rfl), ?_⟩
              replace H := H.nilTab encN 22 3 1
              replace R0 := H.ext
              replace H := H.pick (L' := [.tab none 0 22 ([]) 3 1 (encM encN (([] : List (List Int))))]) [0] (by decide) rfl
              replace R0 := H.ext
              exact ⟨none, 0, ([]), (by first | rfl | (simp; done) | (simp; omega)), H⟩
            ·
              replace F := ite_n hp5 F
              have hq5 : t46_1 = false := raw_f hp5
              refine CW.condF rfl hq5 ?_
              refine CW.skip (hK17 _ _ ?_)
              obtain ⟨hg1, F⟩ := gd_some F
              refine CW.region ?_
              refine LW.pure rfl rfl (RV.add rfl rfl hg1) ?_
              refine LW.pure rfl rfl (RV.move rfl) ?_
              refine LW.nil ?_
              subst hrec1
              refine ⟨mk1, Nat.lt_succ_self _, _, ?_, (t25_1 + 1), F, rfl, H⟩
              exact ⟨rfl, rfl, rfl, rfl, rfl, rfl, rfl, rfl, rfl, trivial⟩
          ·
            intro K20 hK20 jK103
            obtain ⟨x2, hbx2, hx2, F⟩ := ix_some F
            obtain ⟨hg2, F⟩ := gd_some F
            obtain ⟨r3, hr3, F⟩ := bnd_some F
            by_cases hp6 : r3 = true
            ·
              replace F := ite_y hp6 F
              have hq6 : r3 = true := hp6
              obtain ⟨x3, hbx3, hx3, F⟩ := ix_some F
              obtain ⟨hg3, F⟩ := gd_some F
              obtain ⟨r4, hr4, F⟩ := bnd_some F
              refine CW.region ?_
              refine LW.pure rfl rfl (RV.indexArr Ta86 rfl rfl ⟨hbx2.1, (by first | exact hbx2.2 | omega | (have q := hbx2.2; simp at q; omega))⟩) ?_
              refine LW.pure rfl rfl (RV.load1 Tk3 rfl ((H.own 0 rfl).sl.at_ hx2) rfl) ?_
              refine LW.pure rfl rfl (RV.fieldAddr Tf25_0 rfl) ?_
              refine LW.pure rfl rfl (RV.load1 Tk22 rfl ((H.blk 1 rfl).cells.off 0) rfl) ?_
              refine LW.pure rfl rfl (RV.len Ts22 rfl) ?_
              refine LW.pure rfl rfl (RV.sub rfl rfl hg2) ?_
              refine LW.go rfl rfl (OW.call Tc64 rfl (bulk_within_ok (a0 := x2) (a1 := (0 : Int)) (a2 := ((a0.supply.length : Int)) - 1) hr3) ?_)
              rintro _ w7 ⟨rfl, E4⟩
              refine ⟨_, rfl, ?_⟩
              replace H := H.grow E4
              replace R0 := H.ext
              refine LW.pure rfl rfl (RV.not rfl) ?_
              refine LW.pure rfl rfl (RV.move rfl) ?_
              refine LW.pureYB rfl rfl rfl rfl (not_f hq6) (RV.indexArr Ta86 rfl rfl ⟨hbx3.1, (by first | exact hbx3.2 | omega | (have q := hbx3.2; simp at q; omega))⟩) ?_
              refine LW.pureYB rfl rfl rfl rfl (not_f hq6) (RV.load1 Tk3 rfl ((H.own 0 rfl).sl.at_ hx3) rfl) ?_
              refine LW.pureYB rfl rfl rfl rfl (not_f hq6) (RV.fieldAddr Tf25_1 rfl) ?_
              refine LW.pureYB rfl rfl rfl rfl (not_f hq6) (RV.load1 Tk22 rfl ((H.blk 1 rfl).cells.off 1) rfl) ?_
              refine LW.pureYB rfl rfl rfl rfl (not_f hq6) (RV.len Ts22 rfl) ?_
              refine LW.pureYB rfl rfl rfl rfl (not_f hq6) (RV.sub rfl rfl hg3) ?_
              refine LW.yesB rfl rfl rfl rfl (not_f hq6) (OW.call Tc64 rfl (bulk_within_ok (a0 := x3) (a1 := (0 : Int)) (a2 := ((a0.demand.length : Int)) - 1) hr4) ?_)
              rintro _ w8 ⟨rfl, E5⟩
              refine ⟨_, rfl, ?_⟩
              replace H := H.grow E5
              replace R0 := H.ext
              refine LW.pureYB rfl rfl rfl rfl (not_f hq6) (RV.not rfl) ?_
              refine LW.pure rfl rfl (RV.pickFB rfl (not_f hq6) rfl) ?_
              replace H := H.pick (L' := [.blk b1 25 [.slice A_a0_supply a0.supply.length c_a0_supply, .slice A_a0_demand a0.demand.length c_a0_demand, .slice A_a0_cost a0.cost.length c_a0_cost]]) [1] (by decide) rfl
              replace R0 := H.ext
              refine LW.nil (jK103 _ _ ⟨_, ?_, ⟨(!r4), F, rfl, H⟩⟩)
              exact ⟨rfl, rfl, rfl, rfl, rfl, rfl, rfl, rfl, rfl, rfl, trivial⟩
            ·
              replace F := ite_n hp6 F
              have hq6 : r3 = false := raw_f hp6
              refine CW.region ?_
              refine LW.pure rfl rfl (RV.indexArr Ta86 rfl rfl ⟨hbx2.1, (by first | exact hbx2.2 | omega | (have q := hbx2.2; simp at q; omega))⟩) ?_
              refine LW.pure rfl rfl (RV.load1 Tk3 rfl ((H.own 0 rfl).sl.at_ hx2) rfl) ?_
              refine LW.pure rfl rfl (RV.fieldAddr Tf25_0 rfl) ?_
              refine LW.pure rfl rfl (RV.load1 Tk22 rfl ((H.blk 1 rfl).cells.off 0) rfl) ?_
              refine LW.pure rfl rfl (RV.len Ts22 rfl) ?_
              refine LW.pure rfl rfl (RV.sub rfl rfl hg2) ?_
              refine LW.go rfl rfl (OW.call Tc64 rfl (bulk_within_ok (a0 := x2) (a1 := (0 : Int)) (a2 := ((a0.supply.length : Int)) - 1) hr3) ?_)
              rintro _ w9 ⟨rfl, E6⟩
              refine ⟨_, rfl, ?_⟩
              replace H := H.grow E6
              replace R0 := H.ext
              refine LW.pure rfl rfl (RV.not rfl) ?_
              refine LW.pure rfl rfl (RV.move rfl) ?_
              refine LW.noB rfl rfl rfl rfl (ne_beq (v := true) (not_t hq6) rfl) ?_
              refine LW.noB rfl rfl rfl rfl (ne_beq (v := true) (not_t hq6) rfl) ?_
              refine LW.noB rfl rfl rfl rfl (ne_beq (v := true) (not_t hq6) rfl) ?_
              refine LW.noB rfl rfl rfl rfl (ne_beq (v := true) (not_t hq6) rfl) ?_
              refine LW.noB rfl rfl rfl rfl (ne_beq (v := true) (not_t hq6) rfl) ?_
              refine LW.noB rfl rfl rfl rfl (ne_beq (v := true) (not_t hq6) rfl) ?_
              refine LW.noB rfl rfl rfl rfl (ne_beq (v := true) (not_t hq6) rfl) ?_
              refine LW.noB rfl rfl rfl rfl (ne_beq (v := true) (not_t hq6) rfl) ?_
              refine LW.pure rfl rfl (RV.pickTB rfl (not_t hq6) rfl) ?_
              replace H := H.pick (L' := [.blk b1 25 [.slice A_a0_supply a0.supply.length c_a0_supply, .slice A_a0_demand a0.demand.length c_a0_demand, .slice A_a0_cost a0.cost.length c_a0_cost]]) [1] (by decide) rfl
              replace R0 := H.ext
              refine LW.nil (jK103 _ _ ⟨_, ?_, ⟨true, F, rfl, H⟩⟩)
              exact ⟨rfl, rfl, rfl, rfl, rfl, rfl, rfl, rfl, rfl, rfl, trivial⟩
        ·
          replace F := ite_n hp4 F
          have hq4 := dec_f hp4
          refine CW.condF rfl hq4 ?_
          replace H := H.pick (L' := []) [] (by decide) rfl
          replace R0 := H.ext
          refine CW.exit (jK84 _ _ ⟨_, ?_, ⟨F, rfl, H⟩⟩)
          exact ⟨rfl, rfl, rfl, rfl, rfl, trivial⟩
  ·
    replace F := ite_n hp1 F
    have hq1 := dec_f hp1
    refine CW.condT rfl (not_t hq1) ?_
    refine CW.seq fun K21 hK21 => ?_
    refine CW.region ?_
    refine LW.pure rfl rfl (RV.move rfl) ?_
    refine LW.pure rfl rfl (RV.assign rfl) ?_
    refine LW.pure rfl rfl (RV.assign rfl) ?_
    refine LW.pure rfl rfl (RV.assign rfl) ?_
    refine LW.nil (hK21 _ _ ?_)
    refine CW.ret ?_
    obtain rfl := Option.some.inj F
    refine ⟨_, (ResOK.three rfl rfl rfl), ?_⟩
    replace H := H.nilTab encN 22 3 1
    replace R0 := H.ext
    replace H := H.pick (L' := [.tab none 0 22 ([]) 3 1 (encM encN (([] : List (List Int))))]) [0] (by decide) rfl
    replace R0 := H.ext
    exact ⟨none, 0, ([]), (by first | rfl | (simp; done) | (simp; omega)), H⟩
end Go.D7

set_option linter.unusedVariables false
set_option linter.unusedSimpArgs false
namespace Go.D7
open Go.Tb Go.Proofs Go.RowKit
set_option maxRecDepth 20000 in
set_option maxHeartbeats 1000000 in
theorem top_TopPlans_ok {a0 : Trade} {a1 : List (List Int)} {a2 : Prices} {A_a0_supply : Option Addr} {c_a0_supply : Nat} {A_a0_demand : Option Addr} {c_a0_demand : Nat} {A_a0_cost : Option Addr} {c_a0_cost : Nat} {A_a1 : Option Addr} {c_a1 : Nat} {A_a2_stores : Option Addr} {c_a2_stores : Nat} {A_a2_buyers : Option Addr} {c_a2_buyers : Nat} {w : World} {res : Bool} (h_a0_supply : Sl w A_a0_supply c_a0_supply 1 (a0.supply.map encN)) (h_a0_demand : Sl w A_a0_demand c_a0_demand 1 (a0.demand.map encN)) (h_a0_cost : Sl2 w A_a0_cost c_a0_cost 1 encN a0.cost) (h_a1 : Sl2 w A_a1 c_a1 1 encN a1) (h_a2_stores : Sl w A_a2_stores c_a2_stores 1 (a2.stores.map encN)) (h_a2_buyers : Sl w A_a2_buyers c_a2_buyers 1 (a2.buyers.map encN)) (F : top_TopPlans a0 a1 a2 = some res) : Calls Try.prog 16 #[.agg #[.slice A_a0_supply a0.supply.length c_a0_supply, .slice A_a0_demand a0.demand.length c_a0_demand, .slice A_a0_cost a0.cost.length c_a0_cost], .slice A_a1 a1.length c_a1, .agg #[.slice A_a2_stores a2.stores.length c_a2_stores, .slice A_a2_buyers a2.buyers.length c_a2_buyers]] w (Rt w (.bool res)) := by
  refine calls_of_cw (args := [.agg #[.slice A_a0_supply a0.supply.length c_a0_supply, .slice A_a0_demand a0.demand.length c_a0_demand, .slice A_a0_cost a0.cost.length c_a0_cost], .slice A_a1 a1.length c_a1, .agg #[.slice A_a2_stores a2.stores.length c_a2_stores, .slice A_a2_buyers a2.buyers.length c_a2_buyers]]) Try.func16 rfl rfl rfl rfl ?_
  have H := Hp.start w
  have R0 := H.ext
  unfold top_TopPlans at F
  refine CW.seq fun K1 hK1 => ?_
  refine CW.region ?_
  refine LW.go rfl rfl (OW.box rfl fun b1 w1 N1 => ?_)
  replace H := H.new N1 N1.blk
  replace R0 := H.ext
  refine LW.go rfl rfl (OW.box rfl fun b2 w2 N2 => ?_)
  replace H := H.new N2 N2.blk
  replace R0 := H.ext
  refine LW.pure rfl rfl (RV.assign rfl) ?_
  refine LW.nil (hK1 _ _ ?_)
  refine CW.seq fun K2 hK2 => ?_
  obtain ⟨r14, hr14, F⟩ := bnd_some F
  refine CW.region ?_
  refine LW.go rfl rfl (OW.buildSlice (e := 3) (vs := [.int .i64 2]) (cs := [.int .i64 2]) rfl (fun _ => by kernel_rfl) fun b3 w3 N3 => ?_)
  replace H := H.made' (k := 1) (t := 3) (enc := encN) (l := ([2] : List Int)) N3 N3.blk (fun _ => rfl) rfl (by first | decide | omega | (simp; done) | (simp; omega))
  replace R0 := H.ext
  refine LW.go rfl rfl (OW.buildSlice (e := 3) (vs := [.int .i64 2]) (cs := [.int .i64 2]) rfl (fun _ => by kernel_rfl) fun b4 w4 N4 => ?_)
  replace H := H.made' (k := 1) (t := 3) (enc := encN) (l := ([2] : List Int)) N4 N4.blk (fun _ => rfl) rfl (by first | decide | omega | (simp; done) | (simp; omega))
  replace R0 := H.ext
  refine LW.go rfl rfl (OW.buildSlice (e := 3) (vs := [.int .i64 3]) (cs := [.int .i64 3]) rfl (fun _ => by kernel_rfl) fun b5 w5 N5 => ?_)
  replace H := H.made' (k := 1) (t := 3) (enc := encN) (l := ([3] : List Int)) N5 N5.blk (fun _ => rfl) rfl (by first | decide | omega | (simp; done) | (simp; omega))
  replace R0 := H.ext
  refine LW.go rfl rfl (OW.buildSlice (e := 22) (vs := [.slice (some ⟨b5, 0, none⟩) 1 ((([3] : List Int)).length)]) (cs := [.slice (some ⟨b5, 0, none⟩) 1 ((([3] : List Int)).length)]) rfl (fun _ => by kernel_rfl) fun b6 w6 N6 => ?_)
  replace H := H.made' (k := 1) (t := 22) (enc := encH) (l := ([((some ⟨b5, 0, none⟩, (([3] : List Int)).length), ([3] : List Int))] : List ((Option Addr × Nat) × List Int))) N6 (by have q := N6.blk; simp only [List.flatMap_cons, List.flatMap_nil, encH, List.length_nil, List.append_nil, List.cons_append, List.nil_append]; first | done | exact q) (fun _ => rfl) rfl (by first | decide | omega | (simp; done) | (simp; omega))
  replace R0 := H.ext
  have hS23 : Sl2 w6 (some ⟨b6, 0, none⟩) 1 1 encN [([3] : List Int)] := Sl2.one (H.own 0 rfl).sl (H.own 1 rfl).sl
  refine LW.pure rfl rfl (RV.build (vs := [.slice (some ⟨b3, 0, none⟩) 1 ((([2] : List Int)).length), .slice (some ⟨b4, 0, none⟩) 1 ((([2] : List Int)).length), .slice (some ⟨b6, 0, none⟩) 1 1]) (cs := [.slice (some ⟨b3, 0, none⟩) 1 ((([2] : List Int)).length), .slice (some ⟨b4, 0, none⟩) 1 ((([2] : List Int)).length), .slice (some ⟨b6, 0, none⟩) 1 1]) rfl (fun _ => by kernel_rfl)) ?_
  refine LW.go rfl rfl (OW.call Tc21 (evs_cast rfl (by first | rfl | (simp; done) | (simp; omega))) (bulk_Least_ok (a0 := (⟨([2] : List Int), ([2] : List Int), ([([3] : List Int)] : List (List Int))⟩ : Trade)) (H.own 3 rfl).sl (H.own 2 rfl).sl (Sl2.one (H.own 0 rfl).sl (H.own 1 rfl).sl) hr14) ?_)
  rintro _ w7 ⟨rfl, E1⟩
  refine ⟨_, rfl, ?_⟩
  have hS23 := hS23.ext E1
  replace H := H.grow E1
  replace R0 := H.ext
  refine LW.pure rfl rfl (RV.move rfl) ?_
  refine LW.pure rfl rfl (RV.extract rfl rfl) ?_
  refine LW.pure rfl rfl (RV.extract rfl rfl) ?_
  refine LW.pure rfl rfl (RV.assign rfl) ?_
  refine LW.pure rfl rfl (RV.assign rfl) ?_
  refine LW.nil (hK2 _ _ ?_)
  refine CW.seq fun K3 hK3 => ?_
  refine CW.seqJ (fun ρ wl1 => (∃ (t41_1 : Bool), top_TopPlans_k7 a0 a1 a2 t41_1 = some res ∧ ρ = [(1, .slice A_a1 a1.length c_a1), (3, .pointer (some (⟨b1, 0, none⟩))), (5, .pointer (some (⟨b2, 0, none⟩))), (6, .bool false), (41, .bool t41_1)] ∧ Hp w wl1 [.blk b1 25 [.slice A_a0_supply a0.supply.length c_a0_supply, .slice A_a0_demand a0.demand.length c_a0_demand, .slice A_a0_cost a0.cost.length c_a0_cost], .blk b2 27 [.slice A_a2_stores a2.stores.length c_a2_stores, .slice A_a2_buyers a2.buyers.length c_a2_buyers]])) ?_ ?_
  ·
    rintro _ wl1 ⟨t41_1, F, rfl, H⟩
    have R0 := H.ext
    unfold top_TopPlans_k7 at F
    by_cases hp1 : t41_1 = true
    ·
      replace F := ite_y hp1 F
      have hq1 : t41_1 = true := hp1
      refine CW.condT rfl hq1 ?_
      refine CW.seq fun K4 hK4 => ?_
      refine CW.region ?_
      refine LW.pure rfl rfl (RV.assign rfl) ?_
      refine LW.nil (hK4 _ _ ?_)
      refine CW.ret ?_
      obtain rfl := Option.some.inj F
      refine ⟨_, (ResOK.one rfl), ?_⟩
      refine ⟨(by first | rfl | simp), R0⟩
    ·
      replace F := ite_n hp1 F
      have hq1 : t41_1 = false := raw_f hp1
      refine CW.condF rfl hq1 ?_
      refine CW.skip (hK3 _ _ ?_)
      refine CW.seq fun K5 hK5 => ?_
      refine CW.seqJ (fun ρ wl2 => (∃ (t57_1 : Bool), top_TopPlans_k6 a0 a1 a2 t57_1 = some res ∧ ρ = [(1, .slice A_a1 a1.length c_a1), (3, .pointer (some (⟨b1, 0, none⟩))), (5, .pointer (some (⟨b2, 0, none⟩))), (6, .bool false), (57, .bool t57_1)] ∧ Hp w wl2 [.blk b1 25 [.slice A_a0_supply a0.supply.length c_a0_supply, .slice A_a0_demand a0.demand.length c_a0_demand, .slice A_a0_cost a0.cost.length c_a0_cost], .blk b2 27 [.slice A_a2_stores a2.stores.length c_a2_stores, .slice A_a2_buyers a2.buyers.length c_a2_buyers]])) ?_ ?_
      ·
        rintro _ wl2 ⟨t57_1, F, rfl, H⟩
        have R0 := H.ext
        unfold top_TopPlans_k6 at F
        by_cases hp2 : t57_1 = true
        ·
          replace F := ite_y hp2 F
          have hq2 : t57_1 = true := hp2
          refine CW.condT rfl hq2 ?_
          refine CW.seq fun K6 hK6 => ?_
          refine CW.region ?_
          refine LW.pure rfl rfl (RV.assign rfl) ?_
          refine LW.nil (hK6 _ _ ?_)
          refine CW.ret ?_
          obtain rfl := Option.some.inj F
          refine ⟨_, (ResOK.one rfl), ?_⟩
          refine ⟨(by first | rfl | simp), R0⟩
        ·
          replace F := ite_n hp2 F
          have hq2 : t57_1 = false := raw_f hp2
          refine CW.condF rfl hq2 ?_
          refine CW.skip (hK5 _ _ ?_)
          refine CW.seq fun K7 hK7 => ?_
          obtain ⟨r6, hr6, F⟩ := bnd_some F
          refine CW.region ?_
          refine LW.pure rfl rfl (RV.loadA [.slice A_a0_supply a0.supply.length c_a0_supply, .slice A_a0_demand a0.demand.length c_a0_demand, .slice A_a0_cost a0.cost.length c_a0_cost] Tk25 rfl (H.blk 0 rfl).cells rfl rfl) ?_
          refine LW.go rfl rfl (OW.call Tc21 rfl (bulk_Least_ok (a0 := a0) (h_a0_supply.ext R0) (h_a0_demand.ext R0) (h_a0_cost.ext R0) hr6) ?_)
          rintro _ w8 ⟨rfl, E2⟩
          refine ⟨_, rfl, ?_⟩
          replace H := H.grow E2
          replace R0 := H.ext
          refine LW.pure rfl rfl (RV.move rfl) ?_
          refine LW.pure rfl rfl (RV.extract rfl rfl) ?_
          refine LW.pure rfl rfl (RV.extract rfl rfl) ?_
          refine LW.pure rfl rfl (RV.assign rfl) ?_
          refine LW.pure rfl rfl (RV.assign rfl) ?_
          refine LW.nil (hK7 _ _ ?_)
          refine CW.seq fun K8 hK8 => ?_
          obtain ⟨r10, hr10, F⟩ := bnd_some F
          refine CW.region ?_
          refine LW.pure rfl rfl (RV.loadA [.slice A_a0_supply a0.supply.length c_a0_supply, .slice A_a0_demand a0.demand.length c_a0_demand, .slice A_a0_cost a0.cost.length c_a0_cost] Tk25 rfl (H.blk 0 rfl).cells rfl rfl) ?_
          refine LW.go rfl rfl (OW.call Tc27 rfl (bulk_Prove_ok (a0 := a0) (h_a0_supply.ext R0) (h_a0_demand.ext R0) (h_a0_cost.ext R0) hr10) ?_)
          rintro _ w9 ⟨A32_0_stores, c32_0_stores, A32_0_buyers, c32_0_buyers, rfl, E3⟩
          refine ⟨_, rfl, ?_⟩
          replace H : Hp w w9 [.own A32_0_stores c32_0_stores 3 1 (List.map encN r10.1.stores), .own A32_0_buyers c32_0_buyers 3 1 (List.map encN r10.1.buyers), .blk b1 25 [.slice A_a0_supply a0.supply.length c_a0_supply, .slice A_a0_demand a0.demand.length c_a0_demand, .slice A_a0_cost a0.cost.length c_a0_cost], .blk b2 27 [.slice A_a2_stores a2.stores.length c_a2_stores, .slice A_a2_buyers a2.buyers.length c_a2_buyers]] := H.append E3
          replace R0 := H.ext
          refine LW.pure rfl rfl (RV.move rfl) ?_
          refine LW.pure rfl rfl (RV.extract rfl rfl) ?_
          refine LW.pure rfl rfl (RV.extract rfl rfl) ?_
          refine LW.go rfl rfl (OW.alloc Tz27 fun b7 w10 N7 => ?_)
          replace H := H.new N7 N7.blk
          replace R0 := H.ext
          refine LW.go rfl rfl (OW.store Tk27 rfl rfl (H.blk 0 rfl) (off := 0) (vs := [.slice A32_0_stores r10.1.stores.length c32_0_stores, .slice A32_0_buyers r10.1.buyers.length c32_0_buyers]) rfl rfl rfl rfl rfl fun w11 S1 => ?_)
          replace H : Hp w w11 [.blk b7 27 [.slice A32_0_stores r10.1.stores.length c32_0_stores, .slice A32_0_buyers r10.1.buyers.length c32_0_buyers], .own A32_0_stores c32_0_stores 3 1 (List.map encN r10.1.stores), .own A32_0_buyers c32_0_buyers 3 1 (List.map encN r10.1.buyers), .blk b1 25 [.slice A_a0_supply a0.supply.length c_a0_supply, .slice A_a0_demand a0.demand.length c_a0_demand, .slice A_a0_cost a0.cost.length c_a0_cost], .blk b2 27 [.slice A_a2_stores a2.stores.length c_a2_stores, .slice A_a2_buyers a2.buyers.length c_a2_buyers]] := H.stored 0 rfl S1
          replace R0 := H.ext
          refine LW.pure rfl rfl (RV.assign rfl) ?_
          refine LW.nil (hK8 _ _ ?_)
          refine CW.seq fun K9 hK9 => ?_
          refine CW.seq fun K10 hK10 => ?_
          refine CW.region ?_
          refine LW.pure rfl rfl (RV.move rfl) ?_
          refine LW.pure rfl rfl (RV.move rfl) ?_
          refine LW.pure rfl rfl (RV.nei rfl rfl) ?_
          refine LW.nil (hK10 _ _ ?_)
          by_cases hp3 : r6.2 = r10.2
          ·
            replace F := ite_y hp3 F
            have hq3 := dec_t hp3
            refine CW.condF rfl (not_f hq3) ?_
            refine CW.skip (hK9 _ _ ?_)
            refine CW.seq fun K11 hK11 => ?_
            refine CW.seq fun K12 hK12 => ?_
            refine CW.region ?_
            refine LW.pure rfl rfl (RV.move rfl) ?_
            refine LW.pure rfl rfl (RV.nei rfl rfl) ?_
            refine LW.nil (hK12 _ _ ?_)
            by_cases hp4 : r6.2 = 0
            ·
              replace F := ite_y hp4 F
              have hq4 := dec_t hp4
              refine CW.condF rfl (not_f hq4) ?_
              refine CW.skip (hK11 _ _ ?_)
              refine CW.seq fun K13 hK13 => ?_
              obtain ⟨r11, hr11, F⟩ := bnd_some F
              refine CW.region ?_
              refine LW.pure rfl rfl (RV.loadA [.slice A_a0_supply a0.supply.length c_a0_supply, .slice A_a0_demand a0.demand.length c_a0_demand, .slice A_a0_cost a0.cost.length c_a0_cost] Tk25 rfl (H.blk 3 rfl).cells rfl rfl) ?_
              refine LW.pure rfl rfl (RV.loadA [.slice A32_0_stores r10.1.stores.length c32_0_stores, .slice A32_0_buyers r10.1.buyers.length c32_0_buyers] Tk27 rfl (H.blk 0 rfl).cells rfl rfl) ?_
              refine LW.go rfl rfl (OW.call Tc19 rfl (bulk_Worth_ok (a0 := a0) (a1 := r10.1) (h_a0_supply.ext R0) (h_a0_demand.ext R0) (h_a0_cost.ext R0) (H.own 1 rfl).sl (H.own 2 rfl).sl hr11) ?_)
              rintro _ w12 ⟨rfl, E4⟩
              refine ⟨_, rfl, ?_⟩
              replace H := H.grow E4
              replace R0 := H.ext
              refine LW.pure rfl rfl (RV.move rfl) ?_
              refine LW.pure rfl rfl (RV.extract rfl rfl) ?_
              refine LW.pure rfl rfl (RV.extract rfl rfl) ?_
              refine LW.pure rfl rfl (RV.assign rfl) ?_
              refine LW.pure rfl rfl (RV.assign rfl) ?_
              refine LW.nil (hK13 _ _ ?_)
              refine CW.seq fun K14 hK14 => ?_
              obtain ⟨r8, hr8, F⟩ := bnd_some F
              refine CW.region ?_
              refine LW.pure rfl rfl (RV.loadA [.slice A_a0_supply a0.supply.length c_a0_supply, .slice A_a0_demand a0.demand.length c_a0_demand, .slice A_a0_cost a0.cost.length c_a0_cost] Tk25 rfl (H.blk 3 rfl).cells rfl rfl) ?_
              refine LW.pure rfl rfl (RV.loadA [.slice A_a2_stores a2.stores.length c_a2_stores, .slice A_a2_buyers a2.buyers.length c_a2_buyers] Tk27 rfl (H.blk 4 rfl).cells rfl rfl) ?_
              refine LW.go rfl rfl (OW.call Tc19 rfl (bulk_Worth_ok (a0 := a0) (a1 := a2) (h_a0_supply.ext R0) (h_a0_demand.ext R0) (h_a0_cost.ext R0) (h_a2_stores.ext R0) (h_a2_buyers.ext R0) hr8) ?_)
              rintro _ w13 ⟨rfl, E5⟩
              refine ⟨_, rfl, ?_⟩
              replace H := H.grow E5
              replace R0 := H.ext
              refine LW.pure rfl rfl (RV.move rfl) ?_
              refine LW.pure rfl rfl (RV.extract rfl rfl) ?_
              refine LW.pure rfl rfl (RV.extract rfl rfl) ?_
              refine LW.pure rfl rfl (RV.assign rfl) ?_
              refine LW.pure rfl rfl (RV.assign rfl) ?_
              refine LW.nil (hK14 _ _ ?_)
              refine CW.seq fun K15 hK15 => ?_
              refine CW.seqJ (fun ρ wl3 => (∃ (t104_1 : Bool), top_TopPlans_k5 a0 a1 r6 r8 t104_1 = some res ∧ ρ = [(1, .slice A_a1 a1.length c_a1), (3, .pointer (some (⟨b1, 0, none⟩))), (6, .bool false), (9, .int .i64 r6.1), (13, .int .i64 r8.1), (14, .int .i64 r8.2), (104, .bool t104_1)] ∧ Hp w wl3 [.blk b1 25 [.slice A_a0_supply a0.supply.length c_a0_supply, .slice A_a0_demand a0.demand.length c_a0_demand, .slice A_a0_cost a0.cost.length c_a0_cost]])) ?_ ?_
              ·
                rintro _ wl3 ⟨t104_1, F, rfl, H⟩
                have R0 := H.ext
                unfold top_TopPlans_k5 at F
                by_cases hp5 : t104_1 = true
                ·
                  replace F := ite_y hp5 F
                  have hq5 : t104_1 = true := hp5
                  refine CW.condT rfl hq5 ?_
                  refine CW.seq fun K16 hK16 => ?_
                  refine CW.region ?_
                  refine LW.pure rfl rfl (RV.assign rfl) ?_
                  refine LW.nil (hK16 _ _ ?_)
                  refine CW.ret ?_
                  obtain rfl := Option.some.inj F
                  refine ⟨_, (ResOK.one rfl), ?_⟩
                  refine ⟨(by first | rfl | simp), R0⟩
                ·
                  replace F := ite_n hp5 F
                  have hq5 : t104_1 = false := raw_f hp5
                  refine CW.condF rfl hq5 ?_
                  refine CW.skip (hK15 _ _ ?_)
                  refine CW.seq fun K17 hK17 => ?_
                  obtain ⟨r7, hr7, F⟩ := bnd_some F
                  refine CW.region ?_
                  refine LW.pure rfl rfl (RV.loadA [.slice A_a0_supply a0.supply.length c_a0_supply, .slice A_a0_demand a0.demand.length c_a0_demand, .slice A_a0_cost a0.cost.length c_a0_cost] Tk25 rfl (H.blk 0 rfl).cells rfl rfl) ?_
                  refine LW.pure rfl rfl (RV.move rfl) ?_
                  refine LW.go rfl rfl (OW.call Tc37 rfl (bulk_Cost_ok (a0 := a0) (a1 := a1) (h_a0_supply.ext R0) (h_a0_demand.ext R0) (h_a0_cost.ext R0) (h_a1.ext R0) hr7) ?_)
                  rintro _ w14 ⟨rfl, E6⟩
                  refine ⟨_, rfl, ?_⟩
                  replace H := H.grow E6
                  replace R0 := H.ext
                  refine LW.pure rfl rfl (RV.move rfl) ?_
                  refine LW.pure rfl rfl (RV.extract rfl rfl) ?_
                  refine LW.pure rfl rfl (RV.extract rfl rfl) ?_
                  refine LW.pure rfl rfl (RV.assign rfl) ?_
                  refine LW.pure rfl rfl (RV.assign rfl) ?_
                  refine LW.nil (hK17 _ _ ?_)
                  refine CW.seq fun K18 hK18 => ?_
                  refine CW.seq fun K19 hK19 => ?_
                  refine CW.region ?_
                  refine LW.pure rfl rfl (RV.move rfl) ?_
                  refine LW.pure rfl rfl (RV.nei rfl rfl) ?_
                  refine LW.nil (hK19 _ _ ?_)
                  by_cases hp6 : r7.2 = 0
                  ·
                    replace F := ite_y hp6 F
                    have hq6 := dec_t hp6
                    refine CW.condF rfl (not_f hq6) ?_
                    refine CW.skip (hK18 _ _ ?_)
                    refine CW.seq fun K20 hK20 => ?_
                    refine CW.seqJ (fun ρ wl4 => (∃ (t124_1 : Bool), top_TopPlans_k4 a0 a1 r6 r7 t124_1 = some res ∧ ρ = [(1, .slice A_a1 a1.length c_a1), (3, .pointer (some (⟨b1, 0, none⟩))), (6, .bool false), (9, .int .i64 r6.1), (15, .int .i64 r7.1), (124, .bool t124_1)] ∧ Hp w wl4 [.blk b1 25 [.slice A_a0_supply a0.supply.length c_a0_supply, .slice A_a0_demand a0.demand.length c_a0_demand, .slice A_a0_cost a0.cost.length c_a0_cost]])) ?_ ?_
                    ·
                      rintro _ wl4 ⟨t124_1, F, rfl, H⟩
                      have R0 := H.ext
                      unfold top_TopPlans_k4 at F
                      by_cases hp7 : t124_1 = true
                      ·
                        replace F := ite_y hp7 F
                        have hq7 : t124_1 = true := hp7
                        refine CW.condT rfl hq7 ?_
                        refine CW.seq fun K21 hK21 => ?_
                        refine CW.region ?_
                        refine LW.pure rfl rfl (RV.assign rfl) ?_
                        refine LW.nil (hK21 _ _ ?_)
                        refine CW.ret ?_
                        obtain rfl := Option.some.inj F
                        refine ⟨_, (ResOK.one rfl), ?_⟩
                        refine ⟨(by first | rfl | simp), R0⟩
                      ·
                        replace F := ite_n hp7 F
                        have hq7 : t124_1 = false := raw_f hp7
                        refine CW.condF rfl hq7 ?_
                        refine CW.skip (hK20 _ _ ?_)
                        refine CW.seq fun K22 hK22 => ?_
                        refine CW.region ?_
                        refine LW.pure rfl rfl (RV.assign rfl) ?_
                        refine LW.nil (hK22 _ _ ?_)
                        refine CW.block ?_
                        refine CW.loop (fun meas ρ wl5 => ∃ (t15_1 : Int) (t16_1 : Int) (t1_1 : List (List Int)) (A1 : Option Addr) (c1 : Nat), top_TopPlans_L1 a0 r6 meas t15_1 t16_1 t1_1 = some res ∧ ρ = [(1, .slice A1 t1_1.length c1), (3, .pointer (some (⟨b1, 0, none⟩))), (6, .bool false), (9, .int .i64 r6.1), (15, .int .i64 t15_1), (16, .int .i64 t16_1)] ∧ Hp w wl5 [.blk b1 25 [.slice A_a0_supply a0.supply.length c_a0_supply, .slice A_a0_demand a0.demand.length c_a0_demand, .slice A_a0_cost a0.cost.length c_a0_cost]] ∧ Sl2 wl5 A1 c1 1 encN t1_1) FU ⟨_, ?_, r7.1, ((0 : Int)), a1, A_a1, c_a1, F, rfl, H, (h_a1.ext R0)⟩ ?_
                        · exact ⟨(look_slice rfl (by first | rfl | (simp; done) | (simp; omega))), rfl, rfl, rfl, rfl, rfl, trivial⟩
                        rintro mk1 _ wl5 ⟨t15_1, t16_1, t1_1, A1, c1, F, rfl, H, hS1⟩
                        have R0 := H.ext
                        replace F := top_TopPlans_L1_s F
                        obtain ⟨mk1, rfl, F⟩ := F
                        generalize hrec1 : top_TopPlans_L1 a0 r6 mk1 = rec1 at F
                        unfold top_TopPlans_B1 at F
                        refine CW.seq fun K23 hK23 => ?_
                        refine CW.block ?_
                        refine CW.seq fun K24 hK24 => ?_
                        obtain ⟨r5, hr5, F⟩ := bnd_some F
                        refine CW.region ?_
                        refine LW.pure rfl rfl (RV.loadA [.slice A_a0_supply a0.supply.length c_a0_supply, .slice A_a0_demand a0.demand.length c_a0_demand, .slice A_a0_cost a0.cost.length c_a0_cost] Tk25 rfl (H.blk 0 rfl).cells rfl rfl) ?_
                        refine LW.pure rfl rfl (RV.move rfl) ?_
                        refine LW.go rfl rfl (OW.call Tc44 rfl (bulk_IsBest_ok (a0 := a0) (a1 := t1_1) (h_a0_supply.ext R0) (h_a0_demand.ext R0) (h_a0_cost.ext R0) hS1 hr5) ?_)
                        rintro _ w15 ⟨rfl, E7⟩
                        refine ⟨_, rfl, ?_⟩
                        have hS1 := hS1.ext E7
                        replace H := H.grow E7
                        replace R0 := H.ext
                        refine LW.pure rfl rfl (RV.move rfl) ?_
                        refine LW.pure rfl rfl (RV.extract rfl rfl) ?_
                        refine LW.pure rfl rfl (RV.extract rfl rfl) ?_
                        refine LW.pure rfl rfl (RV.assign rfl) ?_
                        refine LW.pure rfl rfl (RV.assign rfl) ?_
                        refine LW.nil (hK24 _ _ ?_)
                        refine CW.seq fun K25 hK25 => ?_
                        obtain ⟨r4, hr4, F⟩ := bnd_some F
                        refine CW.region ?_
                        refine LW.pure rfl rfl (RV.loadA [.slice A_a0_supply a0.supply.length c_a0_supply, .slice A_a0_demand a0.demand.length c_a0_demand, .slice A_a0_cost a0.cost.length c_a0_cost] Tk25 rfl (H.blk 0 rfl).cells rfl rfl) ?_
                        refine LW.pure rfl rfl (RV.move rfl) ?_
                        refine LW.go rfl rfl (OW.call Tc41 rfl (bulk_Round_ok (a0 := a0) (a1 := t1_1) (h_a0_supply.ext R0) (h_a0_demand.ext R0) (h_a0_cost.ext R0) hS1 hr4) ?_)
                        rintro _ w16 ⟨A52_0, c52_0, rfl, E8⟩
                        refine ⟨_, rfl, ?_⟩
                        have hS1 := hS1.ext E8.ext
                        replace H : Hp w w16 [.own A52_0 c52_0 86 2 (List.map encArr2 r4.1), .blk b1 25 [.slice A_a0_supply a0.supply.length c_a0_supply, .slice A_a0_demand a0.demand.length c_a0_demand, .slice A_a0_cost a0.cost.length c_a0_cost]] := H.append E8
                        replace R0 := H.ext
                        refine LW.pure rfl rfl (RV.move rfl) ?_
                        refine LW.pure rfl rfl (RV.extract rfl rfl) ?_
                        refine LW.pure rfl rfl (RV.extract rfl rfl) ?_
                        refine LW.pure rfl rfl (RV.extract rfl rfl) ?_
                        refine LW.pure rfl rfl (RV.assign rfl) ?_
                        refine LW.pure rfl rfl (RV.assign rfl) ?_
                        refine LW.pure rfl rfl (RV.assign rfl) ?_
                        refine LW.nil (hK25 _ _ ?_)
                        refine CW.seq fun K26 hK26 => ?_
                        refine CW.seqJ (fun ρ wl6 => (∃ (t162_1 : Bool), top_TopPlans_k3 a0 t15_1 t16_1 t1_1 rec1 r5 r4 t162_1 = some res ∧ ρ = [(1, .slice A1 t1_1.length c1), (3, .pointer (some (⟨b1, 0, none⟩))), (6, .bool false), (9, .int .i64 r6.1), (15, .int .i64 t15_1), (16, .int .i64 t16_1), (17, .bool r5.1), (19, .slice A52_0 r4.1.length c52_0), (162, .bool t162_1)] ∧ Hp w wl6 [.own A52_0 c52_0 86 2 (List.map encArr2 r4.1), .blk b1 25 [.slice A_a0_supply a0.supply.length c_a0_supply, .slice A_a0_demand a0.demand.length c_a0_demand, .slice A_a0_cost a0.cost.length c_a0_cost]] ∧ Sl2 wl6 A1 c1 1 encN t1_1)) ?_ ?_
                        ·
                          rintro _ wl6 ⟨t162_1, F, rfl, H, hS1⟩
                          have R0 := H.ext
                          unfold top_TopPlans_k3 at F
                          by_cases hp8 : t162_1 = true
                          ·
                            replace F := ite_y hp8 F
                            have hq8 : t162_1 = true := hp8
                            refine CW.condT rfl hq8 ?_
                            refine CW.seq fun K27 hK27 => ?_
                            refine CW.region ?_
                            refine LW.pure rfl rfl (RV.assign rfl) ?_
                            refine LW.nil (hK27 _ _ ?_)
                            refine CW.ret ?_
                            obtain rfl := Option.some.inj F
                            refine ⟨_, (ResOK.one rfl), ?_⟩
                            refine ⟨(by first | rfl | simp), R0⟩
                          ·
                            replace F := ite_n hp8 F
                            have hq8 : t162_1 = false := raw_f hp8
                            refine CW.condF rfl hq8 ?_
                            refine CW.skip (hK26 _ _ ?_)
                            refine CW.seq fun K28 hK28 => ?_
                            refine CW.seqJ (fun ρ wl7 => (∃ (t167_1 : Bool), top_TopPlans_k2 a0 t15_1 t16_1 t1_1 rec1 r4 t167_1 = some res ∧ ρ = [(1, .slice A1 t1_1.length c1), (3, .pointer (some (⟨b1, 0, none⟩))), (6, .bool false), (9, .int .i64 r6.1), (15, .int .i64 t15_1), (16, .int .i64 t16_1), (19, .slice A52_0 r4.1.length c52_0), (167, .bool t167_1)] ∧ Hp w wl7 [.own A52_0 c52_0 86 2 (List.map encArr2 r4.1), .blk b1 25 [.slice A_a0_supply a0.supply.length c_a0_supply, .slice A_a0_demand a0.demand.length c_a0_demand, .slice A_a0_cost a0.cost.length c_a0_cost]] ∧ Sl2 wl7 A1 c1 1 encN t1_1)) ?_ ?_
                            ·
                              rintro _ wl7 ⟨t167_1, F, rfl, H, hS1⟩
                              have R0 := H.ext
                              unfold top_TopPlans_k2 at F
                              by_cases hp9 : t167_1 = true
                              ·
                                replace F := ite_y hp9 F
                                have hq9 : t167_1 = true := hp9
                                refine CW.condT rfl hq9 ?_
                                refine CW.seq fun K29 hK29 => ?_
                                refine CW.region ?_
                                refine LW.pure rfl rfl (RV.assign rfl) ?_
                                refine LW.nil (hK29 _ _ ?_)
                                refine CW.ret ?_
                                obtain rfl := Option.some.inj F
                                refine ⟨_, (ResOK.one rfl), ?_⟩
                                refine ⟨(by first | rfl | simp), R0⟩
                              ·
                                replace F := ite_n hp9 F
                                have hq9 : t167_1 = false := raw_f hp9
                                refine CW.condF rfl hq9 ?_
                                refine CW.skip (hK28 _ _ ?_)
                                refine CW.seq fun K30 hK30 => ?_
                                obtain ⟨r1, hr1, F⟩ := bnd_some F
                                refine CW.region ?_
                                refine LW.pure rfl rfl (RV.loadA [.slice A_a0_supply a0.supply.length c_a0_supply, .slice A_a0_demand a0.demand.length c_a0_demand, .slice A_a0_cost a0.cost.length c_a0_cost] Tk25 rfl (H.blk 1 rfl).cells rfl rfl) ?_
                                refine LW.pure rfl rfl (RV.move rfl) ?_
                                refine LW.pure rfl rfl (RV.move rfl) ?_
                                refine LW.go rfl rfl (OW.call Tc53 rfl (bulk_Along_ok (a0 := a0) (a1 := t1_1) (a2 := r4.1) (h_a0_supply.ext R0) (h_a0_demand.ext R0) (h_a0_cost.ext R0) hS1 (H.own 0 rfl).sl hr1) ?_)
                                rintro _ w17 ⟨A54_0, c54_0, hs54_0, rfl, E9⟩
                                refine ⟨_, rfl, ?_⟩
                                have hS1 := hS1.ext E9.ext
                                replace H : Hp w w17 [.tab A54_0 c54_0 22 hs54_0 3 1 (encM encN r1.1), .own A52_0 c52_0 86 2 (List.map encArr2 r4.1), .blk b1 25 [.slice A_a0_supply a0.supply.length c_a0_supply, .slice A_a0_demand a0.demand.length c_a0_demand, .slice A_a0_cost a0.cost.length c_a0_cost]] := H.append E9
                                replace R0 := H.ext
                                refine LW.pure rfl rfl (RV.move rfl) ?_
                                refine LW.pure rfl rfl (RV.extract rfl rfl) ?_
                                refine LW.pure rfl rfl (RV.extract rfl rfl) ?_
                                refine LW.pure rfl rfl (RV.extract rfl rfl) ?_
                                refine LW.pure rfl rfl (RV.assign rfl) ?_
                                refine LW.pure rfl rfl (RV.assign rfl) ?_
                                refine LW.pure rfl rfl (RV.assign rfl) ?_
                                refine LW.nil (hK30 _ _ ?_)
                                refine CW.seq fun K31 hK31 => ?_
                                obtain ⟨r2, hr2, F⟩ := bnd_some F
                                refine CW.region ?_
                                refine LW.pure rfl rfl (RV.loadA [.slice A_a0_supply a0.supply.length c_a0_supply, .slice A_a0_demand a0.demand.length c_a0_demand, .slice A_a0_cost a0.cost.length c_a0_cost] Tk25 rfl (H.blk 2 rfl).cells rfl rfl) ?_
                                refine LW.pure rfl rfl (RV.move rfl) ?_
                                refine LW.go rfl rfl (OW.call Tc37 rfl (bulk_Cost_ok (a0 := a0) (a1 := r1.1) (h_a0_supply.ext R0) (h_a0_demand.ext R0) (h_a0_cost.ext R0) (H.tab 0 rfl).sl2 hr2) ?_)
                                rintro _ w18 ⟨rfl, E10⟩
                                refine ⟨_, rfl, ?_⟩
                                have hS1 := hS1.ext E10
                                replace H := H.grow E10
                                replace R0 := H.ext
                                refine LW.pure rfl rfl (RV.move rfl) ?_
                                refine LW.pure rfl rfl (RV.extract rfl rfl) ?_
                                refine LW.pure rfl rfl (RV.extract rfl rfl) ?_
                                refine LW.pure rfl rfl (RV.assign rfl) ?_
                                refine LW.pure rfl rfl (RV.assign rfl) ?_
                                refine LW.nil (hK31 _ _ ?_)
                                refine CW.seq fun K32 hK32 => ?_
                                refine CW.seqJ (fun ρ wl8 => (∃ (t196_1 : Bool), top_TopPlans_k1 t16_1 rec1 r1 r2 t196_1 = some res ∧ ρ = [(1, .slice A1 t1_1.length c1), (3, .pointer (some (⟨b1, 0, none⟩))), (6, .bool false), (9, .int .i64 r6.1), (15, .int .i64 t15_1), (16, .int .i64 t16_1), (22, .slice A54_0 r1.1.length c54_0), (25, .int .i64 r2.1), (196, .bool t196_1)] ∧ Hp w wl8 [.tab A54_0 c54_0 22 hs54_0 3 1 (encM encN r1.1), .blk b1 25 [.slice A_a0_supply a0.supply.length c_a0_supply, .slice A_a0_demand a0.demand.length c_a0_demand, .slice A_a0_cost a0.cost.length c_a0_cost]] ∧ Sl2 wl8 A1 c1 1 encN t1_1)) ?_ ?_
                                ·
                                  rintro _ wl8 ⟨t196_1, F, rfl, H, hS1⟩
                                  have R0 := H.ext
                                  unfold top_TopPlans_k1 at F
                                  by_cases hp10 : t196_1 = true
                                  ·
                                    replace F := ite_y hp10 F
                                    have hq10 : t196_1 = true := hp10
                                    refine CW.condT rfl hq10 ?_
                                    refine CW.seq fun K33 hK33 => ?_
                                    refine CW.region ?_
                                    refine LW.pure rfl rfl (RV.assign rfl) ?_
                                    refine LW.nil (hK33 _ _ ?_)
                                    refine CW.ret ?_
                                    obtain rfl := Option.some.inj F
                                    refine ⟨_, (ResOK.one rfl), ?_⟩
                                    refine ⟨(by first | rfl | simp), R0⟩
                                  ·
                                    replace F := ite_n hp10 F
                                    have hq10 : t196_1 = false := raw_f hp10
                                    refine CW.condF rfl hq10 ?_
                                    refine CW.skip (hK32 _ _ ?_)
                                    obtain ⟨r3, hr3, F⟩ := bnd_some F
                                    refine CW.region ?_
                                    refine LW.pure rfl rfl (RV.move rfl) ?_
                                    refine LW.go rfl rfl (OW.call Tc52 rfl (ref07_CopyTable_ok (a0 := r1.1) (H.tab 0 rfl).sl2 hr3) ?_)
                                    rintro _ w19 ⟨A58_0, c58_0, hs58_0, rfl, E11⟩
                                    refine ⟨_, rfl, ?_⟩
                                    have hS1 := hS1.ext E11.ext
                                    replace H : Hp w w19 [.tab A58_0 c58_0 22 hs58_0 3 1 (encM encN r3), .tab A54_0 c54_0 22 hs54_0 3 1 (encM encN r1.1), .blk b1 25 [.slice A_a0_supply a0.supply.length c_a0_supply, .slice A_a0_demand a0.demand.length c_a0_demand, .slice A_a0_cost a0.cost.length c_a0_cost]] := H.append E11
                                    replace R0 := H.ext
                                    refine LW.pure rfl rfl (RV.move rfl) ?_
                                    refine LW.pure rfl rfl (RV.assign rfl) ?_
                                    refine LW.pure rfl rfl (RV.assign rfl) ?_
                                    refine LW.nil (hK23 _ _ ?_)
                                    obtain ⟨hg1, F⟩ := gd_some F
                                    refine CW.region ?_
                                    refine LW.pure rfl rfl (RV.move rfl) ?_
                                    refine LW.pure rfl rfl (RV.add rfl rfl hg1) ?_
                                    refine LW.pure rfl rfl (RV.assign rfl) ?_
                                    refine LW.nil ?_
                                    have hE1 := (H.tab 0 rfl).sl2
                                    replace H := H.pick (L' := [.blk b1 25 [.slice A_a0_supply a0.supply.length c_a0_supply, .slice A_a0_demand a0.demand.length c_a0_demand, .slice A_a0_cost a0.cost.length c_a0_cost]]) [2] (by decide) rfl
                                    replace R0 := H.ext
                                    subst hrec1
                                    refine ⟨mk1, Nat.lt_succ_self _, _, ?_, r2.1, (t16_1 + 1), r3, A58_0, c58_0, F, rfl, H, hE1⟩
                                    exact ⟨(look_slice rfl (by first | rfl | (simp; done) | (simp; omega))), rfl, rfl, rfl, rfl, rfl, trivial⟩
                                ·
                                  intro K34 hK34 jK133
                                  by_cases hp11 : r1.2.2 = 0
                                  ·
                                    replace F := ite_y hp11 F
                                    have hq11 := dec_t hp11
                                    by_cases hp12 : r2.2 = 0
                                    ·
                                      replace F := ite_y hp12 F
                                      have hq12 := dec_t hp12
                                      by_cases hp13 : r1.2.1 < 1
                                      ·
                                        replace F := ite_y hp13 F
                                        have hq13 := dec_t hp13
                                        refine CW.region ?_
                                        refine LW.pure rfl rfl (RV.move rfl) ?_
                                        refine LW.pure rfl rfl (RV.nei rfl rfl) ?_
                                        refine LW.pure rfl rfl (RV.move rfl) ?_
                                        refine LW.pureYB rfl rfl rfl rfl (not_f hq11) (RV.move rfl) ?_
                                        refine LW.pureYB rfl rfl rfl rfl (not_f hq11) (RV.nei rfl rfl) ?_
                                        refine LW.pure rfl rfl (RV.pickFB rfl (not_f hq11) rfl) ?_
                                        refine LW.pure rfl rfl (RV.move rfl) ?_
                                        refine LW.pureYB rfl rfl rfl rfl (not_f hq12) (RV.move rfl) ?_
                                        refine LW.pureYB rfl rfl rfl rfl (not_f hq12) (RV.lss rfl rfl) ?_
                                        refine LW.pure rfl rfl (RV.pickFB rfl (not_f hq12) rfl) ?_
                                        refine LW.pure rfl rfl (RV.move rfl) ?_
                                        refine LW.noB rfl rfl rfl rfl (ne_beq (v := true) hq13 rfl) ?_
                                        refine LW.noB rfl rfl rfl rfl (ne_beq (v := true) hq13 rfl) ?_
                                        refine LW.noB rfl rfl rfl rfl (ne_beq (v := true) hq13 rfl) ?_
                                        refine LW.pure rfl rfl (RV.pickTB rfl hq13 rfl) ?_
                                        replace H := H.pick (L' := [.tab A54_0 c54_0 22 hs54_0 3 1 (encM encN r1.1), .blk b1 25 [.slice A_a0_supply a0.supply.length c_a0_supply, .slice A_a0_demand a0.demand.length c_a0_demand, .slice A_a0_cost a0.cost.length c_a0_cost]]) [0, 2] (by decide) rfl
                                        replace R0 := H.ext
                                        refine LW.nil (jK133 _ _ ⟨_, ?_, ⟨true, F, rfl, H, hS1⟩⟩)
                                        exact ⟨rfl, rfl, rfl, rfl, rfl, rfl, (look_slice rfl (by first | rfl | (simp; done) | (simp; omega))), rfl, rfl, trivial⟩
                                      ·
                                        replace F := ite_n hp13 F
                                        have hq13 := dec_f hp13
                                        refine CW.region ?_
                                        refine LW.pure rfl rfl (RV.move rfl) ?_
                                        refine LW.pure rfl rfl (RV.nei rfl rfl) ?_
                                        refine LW.pure rfl rfl (RV.move rfl) ?_
                                        refine LW.pureYB rfl rfl rfl rfl (not_f hq11) (RV.move rfl) ?_
                                        refine LW.pureYB rfl rfl rfl rfl (not_f hq11) (RV.nei rfl rfl) ?_
                                        refine LW.pure rfl rfl (RV.pickFB rfl (not_f hq11) rfl) ?_
                                        refine LW.pure rfl rfl (RV.move rfl) ?_
                                        refine LW.pureYB rfl rfl rfl rfl (not_f hq12) (RV.move rfl) ?_
                                        refine LW.pureYB rfl rfl rfl rfl (not_f hq12) (RV.lss rfl rfl) ?_
                                        refine LW.pure rfl rfl (RV.pickFB rfl (not_f hq12) rfl) ?_
                                        refine LW.pure rfl rfl (RV.move rfl) ?_
                                        refine LW.pureYB rfl rfl rfl rfl hq13 (RV.move rfl) ?_
                                        refine LW.pureYB rfl rfl rfl rfl hq13 (RV.move rfl) ?_
                                        refine LW.pureYB rfl rfl rfl rfl hq13 (RV.geq rfl rfl) ?_
                                        refine LW.pure rfl rfl (RV.pickFB rfl hq13 rfl) ?_
                                        replace H := H.pick (L' := [.tab A54_0 c54_0 22 hs54_0 3 1 (encM encN r1.1), .blk b1 25 [.slice A_a0_supply a0.supply.length c_a0_supply, .slice A_a0_demand a0.demand.length c_a0_demand, .slice A_a0_cost a0.cost.length c_a0_cost]]) [0, 2] (by decide) rfl
                                        replace R0 := H.ext
                                        refine LW.nil (jK133 _ _ ⟨_, ?_, ⟨(decide (t15_1 ≤ r2.1)), F, rfl, H, hS1⟩⟩)
                                        exact ⟨rfl, rfl, rfl, rfl, rfl, rfl, (look_slice rfl (by first | rfl | (simp; done) | (simp; omega))), rfl, rfl, trivial⟩
                                    ·
                                      replace F := ite_n hp12 F
                                      have hq12 := dec_f hp12
                                      refine CW.region ?_
                                      refine LW.pure rfl rfl (RV.move rfl) ?_
                                      refine LW.pure rfl rfl (RV.nei rfl rfl) ?_
                                      refine LW.pure rfl rfl (RV.move rfl) ?_
                                      refine LW.pureYB rfl rfl rfl rfl (not_f hq11) (RV.move rfl) ?_
                                      refine LW.pureYB rfl rfl rfl rfl (not_f hq11) (RV.nei rfl rfl) ?_
                                      refine LW.pure rfl rfl (RV.pickFB rfl (not_f hq11) rfl) ?_
                                      refine LW.pure rfl rfl (RV.move rfl) ?_
                                      refine LW.noB rfl rfl rfl rfl (ne_beq (v := true) (not_t hq12) rfl) ?_
                                      refine LW.noB rfl rfl rfl rfl (ne_beq (v := true) (not_t hq12) rfl) ?_
                                      refine LW.pure rfl rfl (RV.pickTB rfl (not_t hq12) rfl) ?_
                                      refine LW.pure rfl rfl (RV.move rfl) ?_
                                      refine LW.noB rfl rfl rfl rfl (ne_beq (v := true) rfl rfl) ?_
                                      refine LW.noB rfl rfl rfl rfl (ne_beq (v := true) rfl rfl) ?_
                                      refine LW.noB rfl rfl rfl rfl (ne_beq (v := true) rfl rfl) ?_
                                      refine LW.pure rfl rfl (RV.pickTB rfl rfl rfl) ?_
                                      replace H := H.pick (L' := [.tab A54_0 c54_0 22 hs54_0 3 1 (encM encN r1.1), .blk b1 25 [.slice A_a0_supply a0.supply.length c_a0_supply, .slice A_a0_demand a0.demand.length c_a0_demand, .slice A_a0_cost a0.cost.length c_a0_cost]]) [0, 2] (by decide) rfl
                                      replace R0 := H.ext
                                      refine LW.nil (jK133 _ _ ⟨_, ?_, ⟨true, F, rfl, H, hS1⟩⟩)
                                      exact ⟨rfl, rfl, rfl, rfl, rfl, rfl, (look_slice rfl (by first | rfl | (simp; done) | (simp; omega))), rfl, rfl, trivial⟩
                                  ·
                                    replace F := ite_n hp11 F
                                    have hq11 := dec_f hp11
                                    refine CW.region ?_
                                    refine LW.pure rfl rfl (RV.move rfl) ?_
                                    refine LW.pure rfl rfl (RV.nei rfl rfl) ?_
                                    refine LW.pure rfl rfl (RV.move rfl) ?_
                                    refine LW.noB rfl rfl rfl rfl (ne_beq (v := true) (not_t hq11) rfl) ?_
                                    refine LW.noB rfl rfl rfl rfl (ne_beq (v := true) (not_t hq11) rfl) ?_
                                    refine LW.pure rfl rfl (RV.pickTB rfl (not_t hq11) rfl) ?_
                                    refine LW.pure rfl rfl (RV.move rfl) ?_
                                    refine LW.noB rfl rfl rfl rfl (ne_beq (v := true) rfl rfl) ?_
                                    refine LW.noB rfl rfl rfl rfl (ne_beq (v := true) rfl rfl) ?_
                                    refine LW.pure rfl rfl (RV.pickTB rfl rfl rfl) ?_
                                    refine LW.pure rfl rfl (RV.move rfl) ?_
                                    refine LW.noB rfl rfl rfl rfl (ne_beq (v := true) rfl rfl) ?_
                                    refine LW.noB rfl rfl rfl rfl (ne_beq (v := true) rfl rfl) ?_
                                    refine LW.noB rfl rfl rfl rfl (ne_beq (v := true) rfl rfl) ?_
                                    refine LW.pure rfl rfl (RV.pickTB rfl rfl rfl) ?_
                                    replace H := H.pick (L' := [.tab A54_0 c54_0 22 hs54_0 3 1 (encM encN r1.1), .blk b1 25 [.slice A_a0_supply a0.supply.length c_a0_supply, .slice A_a0_demand a0.demand.length c_a0_demand, .slice A_a0_cost a0.cost.length c_a0_cost]]) [0, 2] (by decide) rfl
                                    replace R0 := H.ext
                                    refine LW.nil (jK133 _ _ ⟨_, ?_, ⟨true, F, rfl, H, hS1⟩⟩)
                                    exact ⟨rfl, rfl, rfl, rfl, rfl, rfl, (look_slice rfl (by first | rfl | (simp; done) | (simp; omega))), rfl, rfl, trivial⟩
                            ·
                              intro K35 hK35 jK134
                              by_cases hp14 : r5.1 = true
                              ·
                                replace F := ite_y hp14 F
                                have hq14 : r5.1 = true := hp14
                                refine CW.region ?_
                                refine LW.pure rfl rfl (RV.move rfl) ?_
                                refine LW.pure rfl rfl (RV.move rfl) ?_
                                refine LW.noB rfl rfl rfl rfl (ne_beq (v := true) hq14 rfl) ?_
                                refine LW.noB rfl rfl rfl rfl (ne_beq (v := true) hq14 rfl) ?_
                                refine LW.pure rfl rfl (RV.pickTB rfl hq14 rfl) ?_
                                refine LW.nil (jK134 _ _ ⟨_, ?_, ⟨true, F, rfl, H, hS1⟩⟩)
                                exact ⟨rfl, rfl, rfl, rfl, rfl, rfl, (look_slice rfl (by first | rfl | (simp; done) | (simp; omega))), rfl, trivial⟩
                              ·
                                replace F := ite_n hp14 F
                                have hq14 : r5.1 = false := raw_f hp14
                                refine CW.region ?_
                                refine LW.pure rfl rfl (RV.move rfl) ?_
                                refine LW.pure rfl rfl (RV.move rfl) ?_
                                refine LW.pureYB rfl rfl rfl rfl hq14 (RV.move rfl) ?_
                                refine LW.pureYB rfl rfl rfl rfl hq14 (RV.gtr rfl rfl) ?_
                                refine LW.pure rfl rfl (RV.pickFB rfl hq14 rfl) ?_
                                refine LW.nil (jK134 _ _ ⟨_, ?_, ⟨(decide ((40 : Int) < t16_1)), F, rfl, H, hS1⟩⟩)
                                exact ⟨rfl, rfl, rfl, rfl, rfl, rfl, (look_slice rfl (by first | rfl | (simp; done) | (simp; omega))), rfl, trivial⟩
                        ·
                          intro K36 hK36 jK135
                          by_cases hp15 : r5.2 = 0
                          ·
                            replace F := ite_y hp15 F
                            have hq15 := dec_t hp15
                            by_cases hp16 : r4.2.2 = 0
                            ·
                              replace F := ite_y hp16 F
                              have hq16 := dec_t hp16
                              by_cases hp17 : (r5.1 == r4.2.1) = true
                              ·
                                replace F := ite_y hp17 F
                                have hq17 : (r5.1 == r4.2.1) = true := hp17
                                refine CW.region ?_
                                refine LW.pure rfl rfl (RV.move rfl) ?_
                                refine LW.pure rfl rfl (RV.nei rfl rfl) ?_
                                refine LW.pure rfl rfl (RV.move rfl) ?_
                                refine LW.pureYB rfl rfl rfl rfl (not_f hq15) (RV.move rfl) ?_
                                refine LW.pureYB rfl rfl rfl rfl (not_f hq15) (RV.nei rfl rfl) ?_
                                refine LW.pure rfl rfl (RV.pickFB rfl (not_f hq15) rfl) ?_
                                refine LW.pure rfl rfl (RV.move rfl) ?_
                                refine LW.pureYB rfl rfl rfl rfl (not_f hq16) (RV.move rfl) ?_
                                refine LW.pureYB rfl rfl rfl rfl (not_f hq16) (RV.move rfl) ?_
                                refine LW.pureYB rfl rfl rfl rfl (not_f hq16) (RV.eqb Tb4 rfl rfl) ?_
                                refine LW.pure rfl rfl (RV.pickFB rfl (not_f hq16) rfl) ?_
                                refine LW.pure rfl rfl (RV.move rfl) ?_
                                refine LW.noB rfl rfl rfl rfl (ne_beq (v := true) hq17 rfl) ?_
                                refine LW.noB rfl rfl rfl rfl (ne_beq (v := true) hq17 rfl) ?_
                                refine LW.noB rfl rfl rfl rfl (ne_beq (v := true) hq17 rfl) ?_
                                refine LW.noB rfl rfl rfl rfl (ne_beq (v := true) hq17 rfl) ?_
                                refine LW.noB rfl rfl rfl rfl (ne_beq (v := true) hq17 rfl) ?_
                                refine LW.pure rfl rfl (RV.pickTB rfl hq17 rfl) ?_
                                refine LW.pure rfl rfl (RV.move rfl) ?_
                                refine LW.noB rfl rfl rfl rfl (ne_beq (v := true) rfl rfl) ?_
                                refine LW.noB rfl rfl rfl rfl (ne_beq (v := true) rfl rfl) ?_
                                refine LW.noB rfl rfl rfl rfl (ne_beq (v := true) rfl rfl) ?_
                                refine LW.pure rfl rfl (RV.pickTB rfl rfl rfl) ?_
                                refine LW.nil (jK135 _ _ ⟨_, ?_, ⟨true, F, rfl, H, hS1⟩⟩)
                                exact ⟨rfl, rfl, rfl, rfl, rfl, rfl, rfl, (look_slice rfl (by first | rfl | (simp; done) | (simp; omega))), rfl, trivial⟩
                              ·
                                replace F := ite_n hp17 F
                                have hq17 : (r5.1 == r4.2.1) = false := raw_f hp17
                                by_cases hp18 : (r5.1 == (decide (t15_1 = r6.1))) = true
                                ·
                                  replace F := ite_y hp18 F
                                  have hq18 : (r5.1 == (decide (t15_1 = r6.1))) = true := hp18
                                  refine CW.region ?_
                                  refine LW.pure rfl rfl (RV.move rfl) ?_
                                  refine LW.pure rfl rfl (RV.nei rfl rfl) ?_
                                  refine LW.pure rfl rfl (RV.move rfl) ?_
                                  refine LW.pureYB rfl rfl rfl rfl (not_f hq15) (RV.move rfl) ?_
                                  refine LW.pureYB rfl rfl rfl rfl (not_f hq15) (RV.nei rfl rfl) ?_
                                  refine LW.pure rfl rfl (RV.pickFB rfl (not_f hq15) rfl) ?_
                                  refine LW.pure rfl rfl (RV.move rfl) ?_
                                  refine LW.pureYB rfl rfl rfl rfl (not_f hq16) (RV.move rfl) ?_
                                  refine LW.pureYB rfl rfl rfl rfl (not_f hq16) (RV.move rfl) ?_
                                  refine LW.pureYB rfl rfl rfl rfl (not_f hq16) (RV.eqb Tb4 rfl rfl) ?_
                                  refine LW.pure rfl rfl (RV.pickFB rfl (not_f hq16) rfl) ?_
                                  refine LW.pure rfl rfl (RV.move rfl) ?_
                                  refine LW.pureYB rfl rfl rfl rfl hq17 (RV.move rfl) ?_
                                  refine LW.pureYB rfl rfl rfl rfl hq17 (RV.move rfl) ?_
                                  refine LW.pureYB rfl rfl rfl rfl hq17 (RV.move rfl) ?_
                                  refine LW.pureYB rfl rfl rfl rfl hq17 (RV.eqi rfl rfl) ?_
                                  refine LW.pureYB rfl rfl rfl rfl hq17 (RV.neb Tb4 rfl rfl) ?_
                                  refine LW.pure rfl rfl (RV.pickFB rfl hq17 rfl) ?_
                                  refine LW.pure rfl rfl (RV.move rfl) ?_
                                  refine LW.pureYB rfl rfl rfl rfl (not_f hq18) (RV.move rfl) ?_
                                  refine LW.pureYB rfl rfl rfl rfl (not_f hq18) (RV.move rfl) ?_
                                  refine LW.pureYB rfl rfl rfl rfl (not_f hq18) (RV.lss rfl rfl) ?_
                                  refine LW.pure rfl rfl (RV.pickFB rfl (not_f hq18) rfl) ?_
                                  refine LW.nil (jK135 _ _ ⟨_, ?_, ⟨(decide (t15_1 < r6.1)), F, rfl, H, hS1⟩⟩)
                                  exact ⟨rfl, rfl, rfl, rfl, rfl, rfl, rfl, (look_slice rfl (by first | rfl | (simp; done) | (simp; omega))), rfl, trivial⟩
                                ·
                                  replace F := ite_n hp18 F
                                  have hq18 : (r5.1 == (decide (t15_1 = r6.1))) = false := raw_f hp18
                                  refine CW.region ?_
                                  refine LW.pure rfl rfl (RV.move rfl) ?_
                                  refine LW.pure rfl rfl (RV.nei rfl rfl) ?_
                                  refine LW.pure rfl rfl (RV.move rfl) ?_
                                  refine LW.pureYB rfl rfl rfl rfl (not_f hq15) (RV.move rfl) ?_
                                  refine LW.pureYB rfl rfl rfl rfl (not_f hq15) (RV.nei rfl rfl) ?_
                                  refine LW.pure rfl rfl (RV.pickFB rfl (not_f hq15) rfl) ?_
                                  refine LW.pure rfl rfl (RV.move rfl) ?_
                                  refine LW.pureYB rfl rfl rfl rfl (not_f hq16) (RV.move rfl) ?_
                                  refine LW.pureYB rfl rfl rfl rfl (not_f hq16) (RV.move rfl) ?_
                                  refine LW.pureYB rfl rfl rfl rfl (not_f hq16) (RV.eqb Tb4 rfl rfl) ?_
                                  refine LW.pure rfl rfl (RV.pickFB rfl (not_f hq16) rfl) ?_
                                  refine LW.pure rfl rfl (RV.move rfl) ?_
                                  refine LW.pureYB rfl rfl rfl rfl hq17 (RV.move rfl) ?_
                                  refine LW.pureYB rfl rfl rfl rfl hq17 (RV.move rfl) ?_
                                  refine LW.pureYB rfl rfl rfl rfl hq17 (RV.move rfl) ?_
                                  refine LW.pureYB rfl rfl rfl rfl hq17 (RV.eqi rfl rfl) ?_
                                  refine LW.pureYB rfl rfl rfl rfl hq17 (RV.neb Tb4 rfl rfl) ?_
                                  refine LW.pure rfl rfl (RV.pickFB rfl hq17 rfl) ?_
                                  refine LW.pure rfl rfl (RV.move rfl) ?_
                                  refine LW.noB rfl rfl rfl rfl (ne_beq (v := true) (not_t hq18) rfl) ?_
                                  refine LW.noB rfl rfl rfl rfl (ne_beq (v := true) (not_t hq18) rfl) ?_
                                  refine LW.noB rfl rfl rfl rfl (ne_beq (v := true) (not_t hq18) rfl) ?_
                                  refine LW.pure rfl rfl (RV.pickTB rfl (not_t hq18) rfl) ?_
                                  refine LW.nil (jK135 _ _ ⟨_, ?_, ⟨true, F, rfl, H, hS1⟩⟩)
                                  exact ⟨rfl, rfl, rfl, rfl, rfl, rfl, rfl, (look_slice rfl (by first | rfl | (simp; done) | (simp; omega))), rfl, trivial⟩
                            ·
                              replace F := ite_n hp16 F
                              have hq16 := dec_f hp16
                              refine CW.region ?_
                              refine LW.pure rfl rfl (RV.move rfl) ?_
                              refine LW.pure rfl rfl (RV.nei rfl rfl) ?_
                              refine LW.pure rfl rfl (RV.move rfl) ?_
                              refine LW.pureYB rfl rfl rfl rfl (not_f hq15) (RV.move rfl) ?_
                              refine LW.pureYB rfl rfl rfl rfl (not_f hq15) (RV.nei rfl rfl) ?_
                              refine LW.pure rfl rfl (RV.pickFB rfl (not_f hq15) rfl) ?_
                              refine LW.pure rfl rfl (RV.move rfl) ?_
                              refine LW.noB rfl rfl rfl rfl (ne_beq (v := true) (not_t hq16) rfl) ?_
                              refine LW.noB rfl rfl rfl rfl (ne_beq (v := true) (not_t hq16) rfl) ?_
                              refine LW.noB rfl rfl rfl rfl (ne_beq (v := true) (not_t hq16) rfl) ?_
                              refine LW.pure rfl rfl (RV.pickTB rfl (not_t hq16) rfl) ?_
                              refine LW.pure rfl rfl (RV.move rfl) ?_
                              refine LW.noB rfl rfl rfl rfl (ne_beq (v := true) rfl rfl) ?_
                              refine LW.noB rfl rfl rfl rfl (ne_beq (v := true) rfl rfl) ?_
                              refine LW.noB rfl rfl rfl rfl (ne_beq (v := true) rfl rfl) ?_
                              refine LW.noB rfl rfl rfl rfl (ne_beq (v := true) rfl rfl) ?_
                              refine LW.noB rfl rfl rfl rfl (ne_beq (v := true) rfl rfl) ?_
                              refine LW.pure rfl rfl (RV.pickTB rfl rfl rfl) ?_
                              refine LW.pure rfl rfl (RV.move rfl) ?_
                              refine LW.noB rfl rfl rfl rfl (ne_beq (v := true) rfl rfl) ?_
                              refine LW.noB rfl rfl rfl rfl (ne_beq (v := true) rfl rfl) ?_
                              refine LW.noB rfl rfl rfl rfl (ne_beq (v := true) rfl rfl) ?_
                              refine LW.pure rfl rfl (RV.pickTB rfl rfl rfl) ?_
                              refine LW.nil (jK135 _ _ ⟨_, ?_, ⟨true, F, rfl, H, hS1⟩⟩)
                              exact ⟨rfl, rfl, rfl, rfl, rfl, rfl, rfl, (look_slice rfl (by first | rfl | (simp; done) | (simp; omega))), rfl, trivial⟩
                          ·
                            replace F := ite_n hp15 F
                            have hq15 := dec_f hp15
                            refine CW.region ?_
                            refine LW.pure rfl rfl (RV.move rfl) ?_
                            refine LW.pure rfl rfl (RV.nei rfl rfl) ?_
                            refine LW.pure rfl rfl (RV.move rfl) ?_
                            refine LW.noB rfl rfl rfl rfl (ne_beq (v := true) (not_t hq15) rfl) ?_
                            refine LW.noB rfl rfl rfl rfl (ne_beq (v := true) (not_t hq15) rfl) ?_
                            refine LW.pure rfl rfl (RV.pickTB rfl (not_t hq15) rfl) ?_
                            refine LW.pure rfl rfl (RV.move rfl) ?_
                            refine LW.noB rfl rfl rfl rfl (ne_beq (v := true) rfl rfl) ?_
                            refine LW.noB rfl rfl rfl rfl (ne_beq (v := true) rfl rfl) ?_
                            refine LW.noB rfl rfl rfl rfl (ne_beq (v := true) rfl rfl) ?_
                            refine LW.pure rfl rfl (RV.pickTB rfl rfl rfl) ?_
                            refine LW.pure rfl rfl (RV.move rfl) ?_
                            refine LW.noB rfl rfl rfl rfl (ne_beq (v := true) rfl rfl) ?_
                            refine LW.noB rfl rfl rfl rfl (ne_beq (v := true) rfl rfl) ?_
                            refine LW.noB rfl rfl rfl rfl (ne_beq (v := true) rfl rfl) ?_
                            refine LW.noB rfl rfl rfl rfl (ne_beq (v := true) rfl rfl) ?_
                            refine LW.noB rfl rfl rfl rfl (ne_beq (v := true) rfl rfl) ?_
                            refine LW.pure rfl rfl (RV.pickTB rfl rfl rfl) ?_
                            refine LW.pure rfl rfl (RV.move rfl) ?_
                            refine LW.noB rfl rfl rfl rfl (ne_beq (v := true) rfl rfl) ?_
                            refine LW.noB rfl rfl rfl rfl (ne_beq (v := true) rfl rfl) ?_
                            refine LW.noB rfl rfl rfl rfl (ne_beq (v := true) rfl rfl) ?_
                            refine LW.pure rfl rfl (RV.pickTB rfl rfl rfl) ?_
                            refine LW.nil (jK135 _ _ ⟨_, ?_, ⟨true, F, rfl, H, hS1⟩⟩)
                            exact ⟨rfl, rfl, rfl, rfl, rfl, rfl, rfl, (look_slice rfl (by first | rfl | (simp; done) | (simp; omega))), rfl, trivial⟩
                    ·
                      intro K37 hK37 jK136
                      by_cases hp19 : r8.2 = 0
                      ·
                        replace F := ite_y hp19 F
                        have hq19 := dec_t hp19
                        refine CW.region ?_
                        refine LW.pure rfl rfl (RV.move rfl) ?_
                        refine LW.pure rfl rfl (RV.eqi rfl rfl) ?_
                        refine LW.pure rfl rfl (RV.move rfl) ?_
                        refine LW.pureYB rfl rfl rfl rfl hq19 (RV.move rfl) ?_
                        refine LW.pureYB rfl rfl rfl rfl hq19 (RV.move rfl) ?_
                        refine LW.pureYB rfl rfl rfl rfl hq19 (RV.gtr rfl rfl) ?_
                        refine LW.pure rfl rfl (RV.pickTB rfl hq19 rfl) ?_
                        refine LW.nil (jK136 _ _ ⟨_, ?_, ⟨(decide (r7.1 < r8.1)), F, rfl, H⟩⟩)
                        exact ⟨rfl, rfl, rfl, rfl, rfl, rfl, trivial⟩
                      ·
                        replace F := ite_n hp19 F
                        have hq19 := dec_f hp19
                        refine CW.region ?_
                        refine LW.pure rfl rfl (RV.move rfl) ?_
                        refine LW.pure rfl rfl (RV.eqi rfl rfl) ?_
                        refine LW.pure rfl rfl (RV.move rfl) ?_
                        refine LW.noB rfl rfl rfl rfl (ne_beq (v := false) hq19 rfl) ?_
                        refine LW.noB rfl rfl rfl rfl (ne_beq (v := false) hq19 rfl) ?_
                        refine LW.noB rfl rfl rfl rfl (ne_beq (v := false) hq19 rfl) ?_
                        refine LW.pure rfl rfl (RV.pickFB rfl hq19 rfl) ?_
                        refine LW.nil (jK136 _ _ ⟨_, ?_, ⟨false, F, rfl, H⟩⟩)
                        exact ⟨rfl, rfl, rfl, rfl, rfl, rfl, trivial⟩
                  ·
                    replace F := ite_n hp6 F
                    have hq6 := dec_f hp6
                    refine CW.condT rfl (not_t hq6) ?_
                    refine CW.seq fun K38 hK38 => ?_
                    obtain ⟨r9, hr9, F⟩ := bnd_some F
                    refine CW.region ?_
                    refine LW.pure rfl rfl (RV.loadA [.slice A_a0_supply a0.supply.length c_a0_supply, .slice A_a0_demand a0.demand.length c_a0_demand, .slice A_a0_cost a0.cost.length c_a0_cost] Tk25 rfl (H.blk 0 rfl).cells rfl rfl) ?_
                    refine LW.pure rfl rfl (RV.move rfl) ?_
                    refine LW.go rfl rfl (OW.call Tc34 rfl (bulk_CheckPlan_ok (a0 := a0) (a1 := a1) (h_a0_supply.ext R0) (h_a0_demand.ext R0) (h_a0_cost.ext R0) (h_a1.ext R0) hr9) ?_)
                    rintro _ w20 ⟨rfl, E12⟩
                    refine ⟨_, rfl, ?_⟩
                    replace H := H.grow E12
                    replace R0 := H.ext
                    refine LW.pure rfl rfl (RV.move rfl) ?_
                    refine LW.pure rfl rfl (RV.eqi rfl rfl) ?_
                    refine LW.pure rfl rfl (RV.assign rfl) ?_
                    refine LW.nil (hK38 _ _ ?_)
                    refine CW.ret ?_
                    obtain rfl := Option.some.inj F
                    refine ⟨_, (ResOK.one rfl), ?_⟩
                    refine ⟨(by first | rfl | simp), R0⟩
              ·
                intro K39 hK39 jK138
                by_cases hp20 : r11.2 = 0
                ·
                  replace F := ite_y hp20 F
                  have hq20 := dec_t hp20
                  by_cases hp21 : r11.1 = r6.1
                  ·
                    replace F := ite_y hp21 F
                    have hq21 := dec_t hp21
                    by_cases hp22 : r8.2 = 0
                    ·
                      replace F := ite_y hp22 F
                      have hq22 := dec_t hp22
                      refine CW.region ?_
                      refine LW.pure rfl rfl (RV.move rfl) ?_
                      refine LW.pure rfl rfl (RV.nei rfl rfl) ?_
                      refine LW.pure rfl rfl (RV.move rfl) ?_
                      refine LW.pureYB rfl rfl rfl rfl (not_f hq20) (RV.move rfl) ?_
                      refine LW.pureYB rfl rfl rfl rfl (not_f hq20) (RV.move rfl) ?_
                      refine LW.pureYB rfl rfl rfl rfl (not_f hq20) (RV.nei rfl rfl) ?_
                      refine LW.pure rfl rfl (RV.pickFB rfl (not_f hq20) rfl) ?_
                      refine LW.pure rfl rfl (RV.move rfl) ?_
                      refine LW.pureYB rfl rfl rfl rfl (not_f hq21) (RV.move rfl) ?_
                      refine LW.pureYB rfl rfl rfl rfl (not_f hq21) (RV.eqi rfl rfl) ?_
                      refine LW.pureYB rfl rfl rfl rfl (not_f hq21) (RV.move rfl) ?_
                      refine LW.pureYB rfl rfl rfl rfl hq22 (RV.move rfl) ?_
                      refine LW.pureYB rfl rfl rfl rfl hq22 (RV.move rfl) ?_
                      refine LW.pureYB rfl rfl rfl rfl hq22 (RV.gtr rfl rfl) ?_
                      refine LW.pureYB rfl rfl rfl rfl (not_f hq21) (RV.pickTB rfl hq22 rfl) ?_
                      refine LW.pure rfl rfl (RV.pickFB rfl (not_f hq21) rfl) ?_
                      replace H := H.pick (L' := [.blk b1 25 [.slice A_a0_supply a0.supply.length c_a0_supply, .slice A_a0_demand a0.demand.length c_a0_demand, .slice A_a0_cost a0.cost.length c_a0_cost]]) [3] (by decide) rfl
                      replace R0 := H.ext
                      refine LW.nil (jK138 _ _ ⟨_, ?_, ⟨(decide (r6.1 < r8.1)), F, rfl, H⟩⟩)
                      exact ⟨rfl, rfl, rfl, rfl, rfl, rfl, rfl, trivial⟩
                    ·
                      replace F := ite_n hp22 F
                      have hq22 := dec_f hp22
                      refine CW.region ?_
                      refine LW.pure rfl rfl (RV.move rfl) ?_
                      refine LW.pure rfl rfl (RV.nei rfl rfl) ?_
                      refine LW.pure rfl rfl (RV.move rfl) ?_
                      refine LW.pureYB rfl rfl rfl rfl (not_f hq20) (RV.move rfl) ?_
                      refine LW.pureYB rfl rfl rfl rfl (not_f hq20) (RV.move rfl) ?_
                      refine LW.pureYB rfl rfl rfl rfl (not_f hq20) (RV.nei rfl rfl) ?_
                      refine LW.pure rfl rfl (RV.pickFB rfl (not_f hq20) rfl) ?_
                      refine LW.pure rfl rfl (RV.move rfl) ?_
                      refine LW.pureYB rfl rfl rfl rfl (not_f hq21) (RV.move rfl) ?_
                      refine LW.pureYB rfl rfl rfl rfl (not_f hq21) (RV.eqi rfl rfl) ?_
                      refine LW.pureYB rfl rfl rfl rfl (not_f hq21) (RV.move rfl) ?_
                      refine LW.noB rfl rfl rfl rfl (ne_beq (v := false) hq22 rfl) ?_
                      refine LW.noB rfl rfl rfl rfl (ne_beq (v := false) hq22 rfl) ?_
                      refine LW.noB rfl rfl rfl rfl (ne_beq (v := false) hq22 rfl) ?_
                      refine LW.pureYB rfl rfl rfl rfl (not_f hq21) (RV.pickFB rfl hq22 rfl) ?_
                      refine LW.pure rfl rfl (RV.pickFB rfl (not_f hq21) rfl) ?_
                      replace H := H.pick (L' := [.blk b1 25 [.slice A_a0_supply a0.supply.length c_a0_supply, .slice A_a0_demand a0.demand.length c_a0_demand, .slice A_a0_cost a0.cost.length c_a0_cost]]) [3] (by decide) rfl
                      replace R0 := H.ext
                      refine LW.nil (jK138 _ _ ⟨_, ?_, ⟨false, F, rfl, H⟩⟩)
                      exact ⟨rfl, rfl, rfl, rfl, rfl, rfl, rfl, trivial⟩
                  ·
                    replace F := ite_n hp21 F
                    have hq21 := dec_f hp21
                    refine CW.region ?_
                    refine LW.pure rfl rfl (RV.move rfl) ?_
                    refine LW.pure rfl rfl (RV.nei rfl rfl) ?_
                    refine LW.pure rfl rfl (RV.move rfl) ?_
                    refine LW.pureYB rfl rfl rfl rfl (not_f hq20) (RV.move rfl) ?_
                    refine LW.pureYB rfl rfl rfl rfl (not_f hq20) (RV.move rfl) ?_
                    refine LW.pureYB rfl rfl rfl rfl (not_f hq20) (RV.nei rfl rfl) ?_
                    refine LW.pure rfl rfl (RV.pickFB rfl (not_f hq20) rfl) ?_
                    refine LW.pure rfl rfl (RV.move rfl) ?_
                    refine LW.noB rfl rfl rfl rfl (ne_beq (v := true) (not_t hq21) rfl) ?_
                    refine LW.noB rfl rfl rfl rfl (ne_beq (v := true) (not_t hq21) rfl) ?_
                    refine LW.noB rfl rfl rfl rfl (ne_beq (v := true) (not_t hq21) rfl) ?_
                    refine LW.noU rfl rfl rfl rfl ?_
                    refine LW.noU rfl rfl rfl rfl ?_
                    refine LW.noU rfl rfl rfl rfl ?_
                    refine LW.noB rfl rfl rfl rfl (ne_beq (v := true) (not_t hq21) rfl) ?_
                    refine LW.pure rfl rfl (RV.pickTB rfl (not_t hq21) rfl) ?_
                    replace H := H.pick (L' := [.blk b1 25 [.slice A_a0_supply a0.supply.length c_a0_supply, .slice A_a0_demand a0.demand.length c_a0_demand, .slice A_a0_cost a0.cost.length c_a0_cost]]) [3] (by decide) rfl
                    replace R0 := H.ext
                    refine LW.nil (jK138 _ _ ⟨_, ?_, ⟨true, F, rfl, H⟩⟩)
                    exact ⟨rfl, rfl, rfl, rfl, rfl, rfl, rfl, trivial⟩
                ·
                  replace F := ite_n hp20 F
                  have hq20 := dec_f hp20
                  refine CW.region ?_
                  refine LW.pure rfl rfl (RV.move rfl) ?_
                  refine LW.pure rfl rfl (RV.nei rfl rfl) ?_
                  refine LW.pure rfl rfl (RV.move rfl) ?_
                  refine LW.noB rfl rfl rfl rfl (ne_beq (v := true) (not_t hq20) rfl) ?_
                  refine LW.noB rfl rfl rfl rfl (ne_beq (v := true) (not_t hq20) rfl) ?_
                  refine LW.noB rfl rfl rfl rfl (ne_beq (v := true) (not_t hq20) rfl) ?_
                  refine LW.pure rfl rfl (RV.pickTB rfl (not_t hq20) rfl) ?_
                  refine LW.pure rfl rfl (RV.move rfl) ?_
                  refine LW.noB rfl rfl rfl rfl (ne_beq (v := true) rfl rfl) ?_
                  refine LW.noB rfl rfl rfl rfl (ne_beq (v := true) rfl rfl) ?_
                  refine LW.noB rfl rfl rfl rfl (ne_beq (v := true) rfl rfl) ?_
                  refine LW.noU rfl rfl rfl rfl ?_
                  refine LW.noU rfl rfl rfl rfl ?_
                  refine LW.noU rfl rfl rfl rfl ?_
                  refine LW.noB rfl rfl rfl rfl (ne_beq (v := true) rfl rfl) ?_
                  refine LW.pure rfl rfl (RV.pickTB rfl rfl rfl) ?_
                  replace H := H.pick (L' := [.blk b1 25 [.slice A_a0_supply a0.supply.length c_a0_supply, .slice A_a0_demand a0.demand.length c_a0_demand, .slice A_a0_cost a0.cost.length c_a0_cost]]) [3] (by decide) rfl
                  replace R0 := H.ext
                  refine LW.nil (jK138 _ _ ⟨_, ?_, ⟨true, F, rfl, H⟩⟩)
                  exact ⟨rfl, rfl, rfl, rfl, rfl, rfl, rfl, trivial⟩
            ·
              replace F := ite_n hp4 F
              have hq4 := dec_f hp4
              refine CW.condT rfl (not_t hq4) ?_
              refine CW.seq fun K40 hK40 => ?_
              obtain ⟨r12, hr12, F⟩ := bnd_some F
              refine CW.region ?_
              refine LW.pure rfl rfl (RV.loadA [.slice A_a0_supply a0.supply.length c_a0_supply, .slice A_a0_demand a0.demand.length c_a0_demand, .slice A_a0_cost a0.cost.length c_a0_cost] Tk25 rfl (H.blk 3 rfl).cells rfl rfl) ?_
              refine LW.go rfl rfl (OW.call Tc38 rfl (bulk_Validate_ok (a0 := a0) (h_a0_supply.ext R0) (h_a0_demand.ext R0) (h_a0_cost.ext R0) hr12) ?_)
              rintro _ w21 ⟨rfl, E13⟩
              refine ⟨_, rfl, ?_⟩
              replace H := H.grow E13
              replace R0 := H.ext
              refine LW.pure rfl rfl (RV.move rfl) ?_
              refine LW.pure rfl rfl (RV.eqi rfl rfl) ?_
              refine LW.pure rfl rfl (RV.assign rfl) ?_
              refine LW.nil (hK40 _ _ ?_)
              refine CW.ret ?_
              obtain rfl := Option.some.inj F
              refine ⟨_, (ResOK.one rfl), ?_⟩
              refine ⟨(by first | rfl | simp), R0⟩
          ·
            replace F := ite_n hp3 F
            have hq3 := dec_f hp3
            refine CW.condT rfl (not_t hq3) ?_
            refine CW.seq fun K41 hK41 => ?_
            refine CW.region ?_
            refine LW.pure rfl rfl (RV.assign rfl) ?_
            refine LW.nil (hK41 _ _ ?_)
            refine CW.ret ?_
            obtain rfl := Option.some.inj F
            refine ⟨_, (ResOK.one rfl), ?_⟩
            refine ⟨(by first | rfl | simp), R0⟩
      ·
        intro K42 hK42 jK141
        obtain ⟨r13, hr13, F⟩ := bnd_some F
        by_cases hp23 : r13 = true
        ·
          replace F := ite_y hp23 F
          have hq23 : r13 = true := hp23
          refine CW.region ?_
          refine LW.pure rfl rfl (RV.loadA [.slice A_a0_supply a0.supply.length c_a0_supply, .slice A_a0_demand a0.demand.length c_a0_demand, .slice A_a0_cost a0.cost.length c_a0_cost] Tk25 rfl (H.blk 0 rfl).cells rfl rfl) ?_
          refine LW.pure rfl rfl (RV.move rfl) ?_
          refine LW.go rfl rfl (OW.buildSlice (e := 23) (vs := [.slice A_a1 a1.length c_a1]) (cs := [.slice A_a1 a1.length c_a1]) rfl (fun _ => by kernel_rfl) fun b8 w22 N8 => ?_)
          replace H := H.made' (k := 1) (t := 23) (enc := encH) (l := [((A_a1, c_a1), a1)]) N8 (by have q := N8.blk; simp only [List.flatMap_cons, List.flatMap_nil, encH, List.append_nil, List.cons_append, List.nil_append]; first | done | exact q) (fun _ => rfl) rfl (by first | decide | omega | (simp; done) | (simp; omega))
          replace R0 := H.ext
          have hS2 : Sl3 w22 (some ⟨b8, 0, none⟩) 1 1 encN [a1] := Sl3.one (H.own 0 rfl).sl (h_a1.ext R0)
          refine LW.go rfl rfl (OW.call Tc17 (evs_cast rfl (by first | rfl | (simp; done) | (simp; omega))) (law07_Long_ok (a0 := a0) (a1 := [a1]) (h_a0_supply.ext R0) (h_a0_demand.ext R0) (h_a0_cost.ext R0) hS2 hr13) ?_)
          rintro _ w23 ⟨rfl, E14⟩
          refine ⟨_, rfl, ?_⟩
          have hS2 := hS2.ext E14
          replace H := H.grow E14
          replace R0 := H.ext
          refine LW.pure rfl rfl (RV.move rfl) ?_
          refine LW.noB rfl rfl rfl rfl (ne_beq (v := true) hq23 rfl) ?_
          refine LW.noB rfl rfl rfl rfl (ne_beq (v := true) hq23 rfl) ?_
          refine LW.noB rfl rfl rfl rfl (ne_beq (v := true) hq23 rfl) ?_
          refine LW.noB rfl rfl rfl rfl (ne_beq (v := true) hq23 rfl) ?_
          refine LW.pure rfl rfl (RV.pickTB rfl hq23 rfl) ?_
          refine LW.pure rfl rfl (RV.move rfl) ?_
          refine LW.noB rfl rfl rfl rfl (ne_beq (v := true) rfl rfl) ?_
          refine LW.noB rfl rfl rfl rfl (ne_beq (v := true) rfl rfl) ?_
          refine LW.noB rfl rfl rfl rfl (ne_beq (v := true) rfl rfl) ?_
          refine LW.noB rfl rfl rfl rfl (ne_beq (v := true) rfl rfl) ?_
          refine LW.pure rfl rfl (RV.pickTB rfl rfl rfl) ?_
          replace H := H.pick (L' := [.blk b1 25 [.slice A_a0_supply a0.supply.length c_a0_supply, .slice A_a0_demand a0.demand.length c_a0_demand, .slice A_a0_cost a0.cost.length c_a0_cost], .blk b2 27 [.slice A_a2_stores a2.stores.length c_a2_stores, .slice A_a2_buyers a2.buyers.length c_a2_buyers]]) [1, 2] (by decide) rfl
          replace R0 := H.ext
          refine LW.nil (jK141 _ _ ⟨_, ?_, ⟨true, F, rfl, H⟩⟩)
          exact ⟨rfl, rfl, rfl, rfl, rfl, trivial⟩
        ·
          replace F := ite_n hp23 F
          have hq23 : r13 = false := raw_f hp23
          by_cases hp24 : (50 : Int) < ((a2.stores.length : Int))
          ·
            replace F := ite_y hp24 F
            have hq24 := dec_t hp24
            refine CW.region ?_
            refine LW.pure rfl rfl (RV.loadA [.slice A_a0_supply a0.supply.length c_a0_supply, .slice A_a0_demand a0.demand.length c_a0_demand, .slice A_a0_cost a0.cost.length c_a0_cost] Tk25 rfl (H.blk 0 rfl).cells rfl rfl) ?_
            refine LW.pure rfl rfl (RV.move rfl) ?_
            refine LW.go rfl rfl (OW.buildSlice (e := 23) (vs := [.slice A_a1 a1.length c_a1]) (cs := [.slice A_a1 a1.length c_a1]) rfl (fun _ => by kernel_rfl) fun b9 w24 N9 => ?_)
            replace H := H.made' (k := 1) (t := 23) (enc := encH) (l := [((A_a1, c_a1), a1)]) N9 (by have q := N9.blk; simp only [List.flatMap_cons, List.flatMap_nil, encH, List.append_nil, List.cons_append, List.nil_append]; first | done | exact q) (fun _ => rfl) rfl (by first | decide | omega | (simp; done) | (simp; omega))
            replace R0 := H.ext
            have hS3 : Sl3 w24 (some ⟨b9, 0, none⟩) 1 1 encN [a1] := Sl3.one (H.own 0 rfl).sl (h_a1.ext R0)
            refine LW.go rfl rfl (OW.call Tc17 (evs_cast rfl (by first | rfl | (simp; done) | (simp; omega))) (law07_Long_ok (a0 := a0) (a1 := [a1]) (h_a0_supply.ext R0) (h_a0_demand.ext R0) (h_a0_cost.ext R0) hS3 hr13) ?_)
            rintro _ w25 ⟨rfl, E15⟩
            refine ⟨_, rfl, ?_⟩
            have hS3 := hS3.ext E15
            replace H := H.grow E15
            replace R0 := H.ext
            refine LW.pure rfl rfl (RV.move rfl) ?_
            refine LW.pureYB rfl rfl rfl rfl hq23 (RV.fieldAddr Tf27_0 rfl) ?_
            refine LW.pureYB rfl rfl rfl rfl hq23 (RV.load1 Tk22 rfl ((H.blk 2 rfl).cells.off 0) rfl) ?_
            refine LW.pureYB rfl rfl rfl rfl hq23 (RV.len Ts22 rfl) ?_
            refine LW.pureYB rfl rfl rfl rfl hq23 (RV.gtr rfl rfl) ?_
            refine LW.pure rfl rfl (RV.pickFB rfl hq23 rfl) ?_
            refine LW.pure rfl rfl (RV.move rfl) ?_
            refine LW.noB rfl rfl rfl rfl (ne_beq (v := true) hq24 rfl) ?_
            refine LW.noB rfl rfl rfl rfl (ne_beq (v := true) hq24 rfl) ?_
            refine LW.noB rfl rfl rfl rfl (ne_beq (v := true) hq24 rfl) ?_
            refine LW.noB rfl rfl rfl rfl (ne_beq (v := true) hq24 rfl) ?_
            refine LW.pure rfl rfl (RV.pickTB rfl hq24 rfl) ?_
            replace H := H.pick (L' := [.blk b1 25 [.slice A_a0_supply a0.supply.length c_a0_supply, .slice A_a0_demand a0.demand.length c_a0_demand, .slice A_a0_cost a0.cost.length c_a0_cost], .blk b2 27 [.slice A_a2_stores a2.stores.length c_a2_stores, .slice A_a2_buyers a2.buyers.length c_a2_buyers]]) [1, 2] (by decide) rfl
            replace R0 := H.ext
            refine LW.nil (jK141 _ _ ⟨_, ?_, ⟨true, F, rfl, H⟩⟩)
            exact ⟨rfl, rfl, rfl, rfl, rfl, trivial⟩
          ·
            replace F := ite_n hp24 F
            have hq24 := dec_f hp24
            refine CW.region ?_
            refine LW.pure rfl rfl (RV.loadA [.slice A_a0_supply a0.supply.length c_a0_supply, .slice A_a0_demand a0.demand.length c_a0_demand, .slice A_a0_cost a0.cost.length c_a0_cost] Tk25 rfl (H.blk 0 rfl).cells rfl rfl) ?_
            refine LW.pure rfl rfl (RV.move rfl) ?_
            refine LW.go rfl rfl (OW.buildSlice (e := 23) (vs := [.slice A_a1 a1.length c_a1]) (cs := [.slice A_a1 a1.length c_a1]) rfl (fun _ => by kernel_rfl) fun b10 w26 N10 => ?_)
            replace H := H.made' (k := 1) (t := 23) (enc := encH) (l := [((A_a1, c_a1), a1)]) N10 (by have q := N10.blk; simp only [List.flatMap_cons, List.flatMap_nil, encH, List.append_nil, List.cons_append, List.nil_append]; first | done | exact q) (fun _ => rfl) rfl (by first | decide | omega | (simp; done) | (simp; omega))
            replace R0 := H.ext
            have hS4 : Sl3 w26 (some ⟨b10, 0, none⟩) 1 1 encN [a1] := Sl3.one (H.own 0 rfl).sl (h_a1.ext R0)
            refine LW.go rfl rfl (OW.call Tc17 (evs_cast rfl (by first | rfl | (simp; done) | (simp; omega))) (law07_Long_ok (a0 := a0) (a1 := [a1]) (h_a0_supply.ext R0) (h_a0_demand.ext R0) (h_a0_cost.ext R0) hS4 hr13) ?_)
            rintro _ w27 ⟨rfl, E16⟩
            refine ⟨_, rfl, ?_⟩
            have hS4 := hS4.ext E16
            replace H := H.grow E16
            replace R0 := H.ext
            refine LW.pure rfl rfl (RV.move rfl) ?_
            refine LW.pureYB rfl rfl rfl rfl hq23 (RV.fieldAddr Tf27_0 rfl) ?_
            refine LW.pureYB rfl rfl rfl rfl hq23 (RV.load1 Tk22 rfl ((H.blk 2 rfl).cells.off 0) rfl) ?_
            refine LW.pureYB rfl rfl rfl rfl hq23 (RV.len Ts22 rfl) ?_
            refine LW.pureYB rfl rfl rfl rfl hq23 (RV.gtr rfl rfl) ?_
            refine LW.pure rfl rfl (RV.pickFB rfl hq23 rfl) ?_
            refine LW.pure rfl rfl (RV.move rfl) ?_
            refine LW.pureYB rfl rfl rfl rfl hq24 (RV.fieldAddr Tf27_1 rfl) ?_
            refine LW.pureYB rfl rfl rfl rfl hq24 (RV.load1 Tk22 rfl ((H.blk 2 rfl).cells.off 1) rfl) ?_
            refine LW.pureYB rfl rfl rfl rfl hq24 (RV.len Ts22 rfl) ?_
            refine LW.pureYB rfl rfl rfl rfl hq24 (RV.gtr rfl rfl) ?_
            refine LW.pure rfl rfl (RV.pickFB rfl hq24 rfl) ?_
            replace H := H.pick (L' := [.blk b1 25 [.slice A_a0_supply a0.supply.length c_a0_supply, .slice A_a0_demand a0.demand.length c_a0_demand, .slice A_a0_cost a0.cost.length c_a0_cost], .blk b2 27 [.slice A_a2_stores a2.stores.length c_a2_stores, .slice A_a2_buyers a2.buyers.length c_a2_buyers]]) [1, 2] (by decide) rfl
            replace R0 := H.ext
            refine LW.nil (jK141 _ _ ⟨_, ?_, ⟨(decide ((50 : Int) < ((a2.buyers.length : Int)))), F, rfl, H⟩⟩)
            exact ⟨rfl, rfl, rfl, rfl, rfl, trivial⟩
  ·
    intro K43 hK43 jK142
    by_cases hp25 : r14.2 = 0
    ·
      replace F := ite_y hp25 F
      have hq25 := dec_t hp25
      refine CW.region ?_
      refine LW.pure rfl rfl (RV.move rfl) ?_
      refine LW.pure rfl rfl (RV.nei rfl rfl) ?_
      refine LW.pure rfl rfl (RV.move rfl) ?_
      refine LW.pureYB rfl rfl rfl rfl (not_f hq25) (RV.move rfl) ?_
      refine LW.pureYB rfl rfl rfl rfl (not_f hq25) (RV.nei rfl rfl) ?_
      refine LW.pure rfl rfl (RV.pickFB rfl (not_f hq25) rfl) ?_
      replace H := H.pick (L' := [.blk b1 25 [.slice A_a0_supply a0.supply.length c_a0_supply, .slice A_a0_demand a0.demand.length c_a0_demand, .slice A_a0_cost a0.cost.length c_a0_cost], .blk b2 27 [.slice A_a2_stores a2.stores.length c_a2_stores, .slice A_a2_buyers a2.buyers.length c_a2_buyers]]) [5, 4] (by decide) rfl
      replace R0 := H.ext
      refine LW.nil (jK142 _ _ ⟨_, ?_, ⟨(!(decide (r14.1 = 6))), F, rfl, H⟩⟩)
      exact ⟨rfl, rfl, rfl, rfl, rfl, trivial⟩
    ·
      replace F := ite_n hp25 F
      have hq25 := dec_f hp25
      refine CW.region ?_
      refine LW.pure rfl rfl (RV.move rfl) ?_
      refine LW.pure rfl rfl (RV.nei rfl rfl) ?_
      refine LW.pure rfl rfl (RV.move rfl) ?_
      refine LW.noB rfl rfl rfl rfl (ne_beq (v := true) (not_t hq25) rfl) ?_
      refine LW.noB rfl rfl rfl rfl (ne_beq (v := true) (not_t hq25) rfl) ?_
      refine LW.pure rfl rfl (RV.pickTB rfl (not_t hq25) rfl) ?_
      replace H := H.pick (L' := [.blk b1 25 [.slice A_a0_supply a0.supply.length c_a0_supply, .slice A_a0_demand a0.demand.length c_a0_demand, .slice A_a0_cost a0.cost.length c_a0_cost], .blk b2 27 [.slice A_a2_stores a2.stores.length c_a2_stores, .slice A_a2_buyers a2.buyers.length c_a2_buyers]]) [5, 4] (by decide) rfl
      replace R0 := H.ext
      refine LW.nil (jK142 _ _ ⟨_, ?_, ⟨true, F, rfl, H⟩⟩)
      exact ⟨rfl, rfl, rfl, rfl, rfl, trivial⟩
end Go.D7

namespace Go.Tb
/-- A loop over 0 .. N - 1 with a state, that is left at the first i for which p does not hold. -/
theorem scan_loop {S R : Type} (N : Nat) (p : Nat → Bool) (g : Nat → S) (L : Nat → S → Int → Option R) (yes : Option R) (no : Nat → Option R)
    (step : ∀ n i : Nat, i < N → L (n + 1) (g i) (i : Int) = if p i = true then L n (g (i + 1)) ((i + 1 : Nat) : Int) else no i)
    (stop : ∀ n : Nat, L (n + 1) (g N) (N : Int) = yes) : ∀ (d n i : Nat), N = i + d → d < n → L n (g i) (i : Int) = match (List.range' i d).find? (fun j => !p j) with | none => yes | some j => no j
  | 0, n + 1, i, hd, hn => by
    have hi : i = N := by omega
    subst hi
    rw [stop n]; rfl
  | d + 1, n + 1, i, hd, hn => by
    rw [step n i (by omega), List.range'_succ, List.find?_cons]
    cases hp : p i
    · simp
    · simp only [if_true, Bool.not_true]
      exact scan_loop N p g L yes no step stop d n (i + 1) (by omega) (by omega)
theorem find_all {p : Nat → Bool} {i d : Nat} : (List.range' i d).find? (fun j => !p j) = none ↔ ∀ j, i ≤ j → j < i + d → p j = true := by
  rw [List.find?_eq_none]
  constructor
  · intro h j h1 h2
    have := h j (by rw [List.mem_range'_1]; omega)
    simpa using this
  · intro h x hx
    rw [List.mem_range'_1] at hx
    simp [h x hx.1 hx.2]
/-- A loop over 0 .. N - 1 with a state and no way out. -/
theorem for_loop {S R : Type} (N : Nat) (g : Nat → S) (L : Nat → S → Int → Option R) (yes : Option R)
    (step : ∀ n i : Nat, i < N → L (n + 1) (g i) (i : Int) = L n (g (i + 1)) ((i + 1 : Nat) : Int))
    (stop : ∀ n : Nat, L (n + 1) (g N) (N : Int) = yes) : ∀ (d n i : Nat), N = i + d → d < n → L n (g i) (i : Int) = yes
  | 0, n + 1, i, hd, hn => by
    have hi : i = N := by omega
    subst hi
    exact stop n
  | d + 1, n + 1, i, hd, hn => by
    rw [step n i (by omega)]
    exact for_loop N g L yes step stop d n (i + 1) (by omega) (by omega)
theorem for_loop0 {S R : Type} (N : Nat) (g : Nat → S) (L : Nat → S → Int → Option R) (yes : Option R)
    (step : ∀ n i : Nat, i < N → L (n + 1) (g i) (i : Int) = L n (g (i + 1)) ((i + 1 : Nat) : Int))
    (stop : ∀ n : Nat, L (n + 1) (g N) (N : Int) = yes) (hN : N ≤ 9223372036854775807) : L FU (g 0) 0 = yes :=
  for_loop N g L yes step stop N FU 0 (by omega) (by have := FU_pos; omega)
theorem scan_loop0 {S R : Type} (N : Nat) (p : Nat → Bool) (g : Nat → S) (L : Nat → S → Int → Option R) (yes no : Option R)
    (step : ∀ n i : Nat, i < N → L (n + 1) (g i) (i : Int) = if p i = true then L n (g (i + 1)) ((i + 1 : Nat) : Int) else no)
    (stop : ∀ n : Nat, L (n + 1) (g N) (N : Int) = yes) (hN : N ≤ 9223372036854775807) : L FU (g 0) 0 = if (∀ j, j < N → p j = true) then yes else no := by
  have h := scan_loop N p g L yes (fun _ => no) step stop N FU 0 (by omega) (by have := FU_pos; omega)
  refine Eq.trans h ?_
  cases hf : (List.range' 0 N).find? (fun j => !p j) with
  | none => rw [if_pos (fun j hj => find_all.1 hf j (by omega) (by omega))]
  | some j =>
    have h1 := List.find?_some hf
    have h2 := List.mem_of_find?_eq_some hf
    rw [List.mem_range'_1] at h2
    rw [if_neg]
    intro hall
    have := hall j (by omega)
    simp [this] at h1
/-- The same over the elements of a list. -/
theorem list_loop0 {α R : Type} (l : List α) (p : α → Bool) (L : Nat → Int → Option R) (yes no : Option R)
    (step : ∀ (n i : Nat) (x : α), l[i]? = some x → L (n + 1) (i : Int) = if p x = true then L n ((i + 1 : Nat) : Int) else no)
    (stop : ∀ n : Nat, L (n + 1) (l.length : Int) = yes) (hl : l.length ≤ 9223372036854775807) : L FU 0 = if l.all p = true then yes else no := by
  have h := scan_loop0 l.length (fun i => (l[i]?.map p).getD true) (fun _ => ()) (fun n _ i => L n i) yes no (fun n i hi => by
    have hx : l[i]? = some l[i] := by simp [hi]
    rw [step n i _ hx]; simp [hx]) stop hl
  refine Eq.trans h ?_
  by_cases ha : l.all p = true
  · rw [if_pos ha, if_pos]
    intro j hj
    have := List.all_eq_true.1 ha l[j] (List.getElem_mem hj)
    simp [hj, this]
  · rw [if_neg ha, if_neg]
    intro hc
    refine ha (List.all_eq_true.2 fun x hx => ?_)
    obtain ⟨j, hj⟩ := List.getElem?_of_mem hx
    have := hc j (lt_of_at hj)
    simpa [hj] using this
end Go.Tb
