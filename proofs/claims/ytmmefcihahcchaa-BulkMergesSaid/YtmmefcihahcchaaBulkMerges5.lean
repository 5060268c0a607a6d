/- Lemmas and walks that the proof of this claim uses: D7m25, D7n1, D7n2, Tb22, D7p1, D7p2. -/
import Derived.Test.YtmmefcihahcchaaBulkMerges4
set_option linter.unusedVariables false
set_option linter.unusedSimpArgs false
namespace Go.D7
open Go.Tb Go.Proofs Go.RowKit
set_option maxRecDepth 20000 in
set_option maxHeartbeats 1000000 in
theorem ref07_Merge_ok {a0 : Trade} {a1 : Int} {a2 : Int} {A_a0_supply : Option Addr} {c_a0_supply : Nat} {A_a0_demand : Option Addr} {c_a0_demand : Nat} {A_a0_cost : Option Addr} {c_a0_cost : Nat} {w : World} {res : Trade × Int} (h_a0_supply : Sl w A_a0_supply c_a0_supply 1 (a0.supply.map encN)) (h_a0_demand : Sl w A_a0_demand c_a0_demand 1 (a0.demand.map encN)) (h_a0_cost : Sl2 w A_a0_cost c_a0_cost 1 encN a0.cost) (F : ref07_Merge a0 a1 a2 = some res) : Calls Try.prog 36 #[.agg #[.slice A_a0_supply a0.supply.length c_a0_supply, .slice A_a0_demand a0.demand.length c_a0_demand, .slice A_a0_cost a0.cost.length c_a0_cost], .int .i64 a1, .int .i64 a2] w (fun e w' => ∃ (A0_supply : Option Addr) (c0_supply : Nat) (A0_demand : Option Addr) (c0_demand : Nat) (A0_cost : Option Addr) (c0_cost : Nat) (hs0_cost : List (Option Addr × Nat)), e = .returned (.tuple #[.agg #[.slice A0_supply res.1.supply.length c0_supply, .slice A0_demand res.1.demand.length c0_demand, .slice A0_cost res.1.cost.length c0_cost], .int .i64 res.2]) ∧ Hp w w' [.own A0_supply c0_supply 3 1 (List.map encN res.1.supply), .own A0_demand c0_demand 3 1 (List.map encN res.1.demand), .tab A0_cost c0_cost 22 hs0_cost 3 1 (encM encN res.1.cost)]) := by
  refine calls_of_cw (args := [.agg #[.slice A_a0_supply a0.supply.length c_a0_supply, .slice A_a0_demand a0.demand.length c_a0_demand, .slice A_a0_cost a0.cost.length c_a0_cost], .int .i64 a1, .int .i64 a2]) Try.func36 rfl rfl rfl rfl ?_
  have H := Hp.start w
  have R0 := H.ext
  unfold ref07_Merge at F
  refine CW.seq fun K1 hK1 => ?_
  refine CW.region ?_
  refine LW.go rfl rfl (OW.box rfl fun b1 w1 N1 => ?_)
  replace H := H.new N1 N1.blk
  replace R0 := H.ext
  refine LW.go rfl rfl (OW.alloc Tz25 fun b2 w2 N2 => ?_)
  replace H := H.new N2 N2.blk
  replace R0 := H.ext
  refine LW.pure rfl rfl (RV.assign rfl) ?_
  refine LW.nil (hK1 _ _ ?_)
  refine CW.seq fun K2 hK2 => ?_
  obtain ⟨r2, hr2, F⟩ := bnd_some F
  refine CW.region ?_
  refine LW.pure rfl rfl (RV.loadA [.slice A_a0_supply a0.supply.length c_a0_supply, .slice A_a0_demand a0.demand.length c_a0_demand, .slice A_a0_cost a0.cost.length c_a0_cost] Tk25 rfl (H.blk 1 rfl).cells rfl rfl) ?_
  refine LW.go rfl rfl (OW.call Tc39 rfl (ref07_Validate_ok (a0 := a0) (h_a0_supply.ext R0) (h_a0_demand.ext R0) (h_a0_cost.ext R0) hr2) ?_)
  rintro _ w3 ⟨rfl, E1⟩
  refine ⟨_, rfl, ?_⟩
  replace H := H.grow E1
  replace R0 := H.ext
  refine LW.pure rfl rfl (RV.assign rfl) ?_
  refine LW.nil (hK2 _ _ ?_)
  refine CW.seq fun K3 hK3 => ?_
  refine CW.seq fun K4 hK4 => ?_
  refine CW.region ?_
  refine LW.pure rfl rfl (RV.move rfl) ?_
  refine LW.pure rfl rfl (RV.nei rfl rfl) ?_
  refine LW.nil (hK4 _ _ ?_)
  by_cases hp1 : r2 = 0
  ·
    replace F := ite_y hp1 F
    have hq1 := dec_t hp1
    refine CW.condF rfl (not_f hq1) ?_
    refine CW.skip (hK3 _ _ ?_)
    refine CW.seq fun K5 hK5 => ?_
    refine CW.seqJ (fun ρ wl1 => (∃ (t35_1 : Bool), ref07_Merge_k4 a0 a1 a2 t35_1 = some res ∧ ρ = [(1, .int .i64 a1), (2, .int .i64 a2), (3, .pointer (some (⟨b1, 0, none⟩))), (6, .pointer (some (⟨b2, 0, none⟩))), (7, .int .i64 0), (35, .bool t35_1)] ∧ Hp w wl1 [.blk b1 25 [.slice A_a0_supply a0.supply.length c_a0_supply, .slice A_a0_demand a0.demand.length c_a0_demand, .slice A_a0_cost a0.cost.length c_a0_cost], .blk b2 25 [.slice none 0 0, .slice none 0 0, .slice none 0 0]])) ?_ ?_
    ·
      rintro _ wl1 ⟨t35_1, F, rfl, H⟩
      have R0 := H.ext
      unfold ref07_Merge_k4 at F
      by_cases hp2 : t35_1 = true
      ·
        replace F := ite_y hp2 F
        have hq2 : t35_1 = true := hp2
        refine CW.condT rfl hq2 ?_
        refine CW.seq fun K6 hK6 => ?_
        refine CW.region ?_
        refine LW.pure rfl rfl (RV.build (vs := []) (cs := [.slice none 0 0, .slice none 0 0, .slice none 0 0]) rfl (fun _ => by kernel_rfl)) ?_
        refine LW.go rfl rfl (OW.store Tk25 rfl rfl (H.blk 1 rfl) (off := 0) (vs := [.slice none 0 0, .slice none 0 0, .slice none 0 0]) rfl rfl rfl rfl rfl fun w4 S1 => ?_)
        replace H : Hp w w4 [.blk b1 25 [.slice A_a0_supply a0.supply.length c_a0_supply, .slice A_a0_demand a0.demand.length c_a0_demand, .slice A_a0_cost a0.cost.length c_a0_cost], .blk b2 25 [.slice none 0 0, .slice none 0 0, .slice none 0 0]] := H.stored 1 rfl S1
        replace R0 := H.ext
        refine LW.pure rfl rfl (RV.assign rfl) ?_
        refine LW.nil (hK6 _ _ ?_)
        refine CW.ret ?_
        obtain rfl := Option.some.inj F
        refine ⟨_, (ResOK.two ⟨_, rfl, run_loadVar_agg Tk25 (H.blk 1 rfl).cells (us := [.slice none 0 0, .slice none 0 0, .slice none 0 0]) rfl rfl⟩ rfl), ?_⟩
        replace H := H.nilOwn 3 1
        replace R0 := H.ext
        replace H := H.nilOwn 3 1
        replace R0 := H.ext
        replace H := H.nilTab encN 22 3 1
        replace R0 := H.ext
        replace H := H.pick (L' := [.own none 0 3 1 (List.map encN (([] : List Int))), .own none 0 3 1 (List.map encN (([] : List Int))), .tab none 0 22 ([]) 3 1 (encM encN (([] : List (List Int))))]) [2, 1, 0] (by decide) rfl
        replace R0 := H.ext
        exact ⟨none, 0, none, 0, none, 0, ([]), (by first | rfl | (simp; done) | (simp; omega)), H⟩
      ·
        replace F := ite_n hp2 F
        have hq2 : t35_1 = false := raw_f hp2
        refine CW.condF rfl hq2 ?_
        refine CW.skip (hK5 _ _ ?_)
        refine CW.seq fun K7 hK7 => ?_
        refine CW.seq fun K8 hK8 => ?_
        refine CW.region ?_
        refine LW.pure rfl rfl (RV.move rfl) ?_
        refine LW.pure rfl rfl (RV.move rfl) ?_
        refine LW.pure rfl rfl (RV.eqi rfl rfl) ?_
        refine LW.nil (hK8 _ _ ?_)
        by_cases hp3 : a1 = a2
        ·
          replace F := ite_y hp3 F
          have hq3 := dec_t hp3
          refine CW.condT rfl hq3 ?_
          refine CW.seq fun K9 hK9 => ?_
          refine CW.region ?_
          refine LW.pure rfl rfl (RV.build (vs := []) (cs := [.slice none 0 0, .slice none 0 0, .slice none 0 0]) rfl (fun _ => by kernel_rfl)) ?_
          refine LW.go rfl rfl (OW.store Tk25 rfl rfl (H.blk 1 rfl) (off := 0) (vs := [.slice none 0 0, .slice none 0 0, .slice none 0 0]) rfl rfl rfl rfl rfl fun w5 S2 => ?_)
          replace H : Hp w w5 [.blk b1 25 [.slice A_a0_supply a0.supply.length c_a0_supply, .slice A_a0_demand a0.demand.length c_a0_demand, .slice A_a0_cost a0.cost.length c_a0_cost], .blk b2 25 [.slice none 0 0, .slice none 0 0, .slice none 0 0]] := H.stored 1 rfl S2
          replace R0 := H.ext
          refine LW.pure rfl rfl (RV.assign rfl) ?_
          refine LW.nil (hK9 _ _ ?_)
          refine CW.ret ?_
          obtain rfl := Option.some.inj F
          refine ⟨_, (ResOK.two ⟨_, rfl, run_loadVar_agg Tk25 (H.blk 1 rfl).cells (us := [.slice none 0 0, .slice none 0 0, .slice none 0 0]) rfl rfl⟩ rfl), ?_⟩
          replace H := H.nilOwn 3 1
          replace R0 := H.ext
          replace H := H.nilOwn 3 1
          replace R0 := H.ext
          replace H := H.nilTab encN 22 3 1
          replace R0 := H.ext
          replace H := H.pick (L' := [.own none 0 3 1 (List.map encN (([] : List Int))), .own none 0 3 1 (List.map encN (([] : List Int))), .tab none 0 22 ([]) 3 1 (encM encN (([] : List (List Int))))]) [2, 1, 0] (by decide) rfl
          replace R0 := H.ext
          exact ⟨none, 0, none, 0, none, 0, ([]), (by first | rfl | (simp; done) | (simp; omega)), H⟩
        ·
          replace F := ite_n hp3 F
          have hq3 := dec_f hp3
          refine CW.condF rfl hq3 ?_
          refine CW.skip (hK7 _ _ ?_)
          refine CW.seq fun K10 hK10 => ?_
          obtain ⟨hg1, F⟩ := gd_some F
          refine CW.region ?_
          refine LW.go rfl rfl (OW.buildSlice (e := 3) (vs := []) (cs := []) rfl (fun _ => by kernel_rfl) fun b3 w6 N3 => ?_)
          replace H := H.made' (k := 1) (t := 3) (enc := encN) (l := ([] : List Int)) N3 N3.blk (fun _ => rfl) rfl (by first | decide | omega | (simp; done) | (simp; omega))
          replace R0 := H.ext
          refine LW.pure rfl rfl (RV.fieldAddr Tf25_1 rfl) ?_
          refine LW.pure rfl rfl (RV.load1 Tk22 rfl ((H.blk 1 rfl).cells.off 1) rfl) ?_
          refine LW.go rfl rfl (OW.appendG (enc := encN) (l := ([] : List Int)) (xs := a0.demand) Ts22 (look_slice rfl (by first | rfl | (simp; done) | (simp; omega))) rfl (H.own 0 rfl) (h_a0_demand.ext R0) (fun _ => rfl) rfl rfl hg1 (by decide) fun A1 c1 w7 O1 M1 D1 => ?_)
          replace H : Hp w w7 [.own A1 c1 3 1 (List.map encN ((([] : List Int) ++ a0.demand))), .blk b1 25 [.slice A_a0_supply a0.supply.length c_a0_supply, .slice A_a0_demand a0.demand.length c_a0_demand, .slice A_a0_cost a0.cost.length c_a0_cost], .blk b2 25 [.slice none 0 0, .slice none 0 0, .slice none 0 0]] := H.mod 0 rfl M1 O1 D1
          replace R0 := H.ext
          refine LW.pure rfl rfl (RV.build (vs := [.slice A1 (((([] : List Int) ++ a0.demand)).length) c1]) (cs := [.slice none 0 0, .slice A1 (((([] : List Int) ++ a0.demand)).length) c1, .slice none 0 0]) rfl (fun _ => by kernel_rfl)) ?_
          refine LW.go rfl rfl (OW.alloc Tz25 fun b4 w8 N4 => ?_)
          replace H := H.new N4 N4.blk
          replace R0 := H.ext
          refine LW.go rfl rfl (OW.store Tk25 rfl rfl (H.blk 0 rfl) (off := 0) (vs := [.slice none 0 0, .slice A1 (((([] : List Int) ++ a0.demand)).length) c1, .slice none 0 0]) rfl rfl rfl rfl rfl fun w9 S3 => ?_)
          replace H : Hp w w9 [.blk b4 25 [.slice none 0 0, .slice A1 (((([] : List Int) ++ a0.demand)).length) c1, .slice none 0 0], .own A1 c1 3 1 (List.map encN ((([] : List Int) ++ a0.demand))), .blk b1 25 [.slice A_a0_supply a0.supply.length c_a0_supply, .slice A_a0_demand a0.demand.length c_a0_demand, .slice A_a0_cost a0.cost.length c_a0_cost], .blk b2 25 [.slice none 0 0, .slice none 0 0, .slice none 0 0]] := H.stored 0 rfl S3
          replace R0 := H.ext
          refine LW.nil (hK10 _ _ ?_)
          refine CW.seqJ (fun ρ wl2 => (∃ (l1 : List Int) (m1 : List (List Int)) (Al1 : Option Addr) (cl1 : Nat) (hsm1 : List (Option Addr × Nat)) (Am1 : Option Addr) (cm1 : Nat), ref07_Merge_k1 a0 l1 m1 = some res ∧ ρ = [(6, .pointer (some (⟨b2, 0, none⟩))), (7, .int .i64 0), (9, .pointer (some (⟨b4, 0, none⟩)))] ∧ Hp w wl2 [.own Al1 cl1 3 1 (List.map encN l1), .own A1 c1 3 1 (List.map encN ((([] : List Int) ++ a0.demand))), .tab Am1 cm1 22 hsm1 3 1 (encM encN m1), .blk b2 25 [.slice none 0 0, .slice none 0 0, .slice none 0 0], .blk b4 25 [.slice Al1 l1.length cl1, .slice A1 (((([] : List Int) ++ a0.demand)).length) c1, .slice Am1 m1.length cm1]])) ?_ ?_
          ·
            rintro _ wl2 ⟨l1, m1, Al1, cl1, hsm1, Am1, cm1, F, rfl, H⟩
            have R0 := H.ext
            unfold ref07_Merge_k1 at F
            refine CW.seq fun K11 hK11 => ?_
            refine CW.seq fun K12 hK12 => ?_
            obtain ⟨r1, hr1, F⟩ := bnd_some F
            refine CW.region ?_
            refine LW.pure rfl rfl (RV.loadA [.slice Al1 l1.length cl1, .slice A1 (((([] : List Int) ++ a0.demand)).length) c1, .slice Am1 m1.length cm1] Tk25 rfl (H.blk 4 rfl).cells rfl rfl) ?_
            refine LW.go rfl rfl (OW.call Tc39 rfl (ref07_Validate_ok (a0 := (⟨l1, (([] : List Int) ++ a0.demand), m1⟩ : Trade)) (H.own 0 rfl).sl (H.own 1 rfl).sl (H.tab 2 rfl).sl2 hr1) ?_)
            rintro _ w10 ⟨rfl, E2⟩
            refine ⟨_, rfl, ?_⟩
            replace H := H.grow E2
            replace R0 := H.ext
            refine LW.pure rfl rfl (RV.nei rfl rfl) ?_
            refine LW.nil (hK12 _ _ ?_)
            by_cases hp4 : r1 = 0
            ·
              replace F := ite_y hp4 F
              have hq4 := dec_t hp4
              refine CW.condF rfl (not_f hq4) ?_
              refine CW.skip (hK11 _ _ ?_)
              refine CW.seq fun K13 hK13 => ?_
              refine CW.region ?_
              refine LW.pure rfl rfl (RV.loadA [.slice Al1 l1.length cl1, .slice A1 (((([] : List Int) ++ a0.demand)).length) c1, .slice Am1 m1.length cm1] Tk25 rfl (H.blk 4 rfl).cells rfl rfl) ?_
              refine LW.go rfl rfl (OW.store Tk25 rfl rfl (H.blk 3 rfl) (off := 0) (vs := [.slice Al1 l1.length cl1, .slice A1 (((([] : List Int) ++ a0.demand)).length) c1, .slice Am1 m1.length cm1]) rfl rfl rfl rfl rfl fun w11 S4 => ?_)
              replace H : Hp w w11 [.own Al1 cl1 3 1 (List.map encN l1), .own A1 c1 3 1 (List.map encN ((([] : List Int) ++ a0.demand))), .tab Am1 cm1 22 hsm1 3 1 (encM encN m1), .blk b2 25 [.slice Al1 l1.length cl1, .slice A1 (((([] : List Int) ++ a0.demand)).length) c1, .slice Am1 m1.length cm1], .blk b4 25 [.slice Al1 l1.length cl1, .slice A1 (((([] : List Int) ++ a0.demand)).length) c1, .slice Am1 m1.length cm1]] := H.stored 3 rfl S4
              replace R0 := H.ext
              refine LW.pure rfl rfl (RV.assign rfl) ?_
              refine LW.nil (hK13 _ _ ?_)
              refine CW.ret ?_
              obtain rfl := Option.some.inj F
              refine ⟨_, (ResOK.two ⟨_, rfl, run_loadVar_agg Tk25 (H.blk 3 rfl).cells (us := [.slice Al1 l1.length cl1, .slice A1 (((([] : List Int) ++ a0.demand)).length) c1, .slice Am1 m1.length cm1]) rfl rfl⟩ rfl), ?_⟩
              replace H := H.pick (L' := [.own Al1 cl1 3 1 (List.map encN l1), .own A1 c1 3 1 (List.map encN ((([] : List Int) ++ a0.demand))), .tab Am1 cm1 22 hsm1 3 1 (encM encN m1)]) [0, 1, 2] (by decide) rfl
              replace R0 := H.ext
              exact ⟨Al1, cl1, A1, c1, Am1, cm1, hsm1, (by first | rfl | (simp; done) | (simp; omega)), H⟩
            ·
              replace F := ite_n hp4 F
              have hq4 := dec_f hp4
              refine CW.condT rfl (not_t hq4) ?_
              refine CW.seq fun K14 hK14 => ?_
              refine CW.region ?_
              refine LW.pure rfl rfl (RV.build (vs := []) (cs := [.slice none 0 0, .slice none 0 0, .slice none 0 0]) rfl (fun _ => by kernel_rfl)) ?_
              refine LW.go rfl rfl (OW.store Tk25 rfl rfl (H.blk 3 rfl) (off := 0) (vs := [.slice none 0 0, .slice none 0 0, .slice none 0 0]) rfl rfl rfl rfl rfl fun w12 S5 => ?_)
              replace H : Hp w w12 [.own Al1 cl1 3 1 (List.map encN l1), .own A1 c1 3 1 (List.map encN ((([] : List Int) ++ a0.demand))), .tab Am1 cm1 22 hsm1 3 1 (encM encN m1), .blk b2 25 [.slice none 0 0, .slice none 0 0, .slice none 0 0], .blk b4 25 [.slice Al1 l1.length cl1, .slice A1 (((([] : List Int) ++ a0.demand)).length) c1, .slice Am1 m1.length cm1]] := H.stored 3 rfl S5
              replace R0 := H.ext
              refine LW.pure rfl rfl (RV.assign rfl) ?_
              refine LW.nil (hK14 _ _ ?_)
              refine CW.ret ?_
              obtain rfl := Option.some.inj F
              refine ⟨_, (ResOK.two ⟨_, rfl, run_loadVar_agg Tk25 (H.blk 3 rfl).cells (us := [.slice none 0 0, .slice none 0 0, .slice none 0 0]) rfl rfl⟩ rfl), ?_⟩
              replace H := H.nilOwn 3 1
              replace R0 := H.ext
              replace H := H.nilOwn 3 1
              replace R0 := H.ext
              replace H := H.nilTab encN 22 3 1
              replace R0 := H.ext
              replace H := H.pick (L' := [.own none 0 3 1 (List.map encN (([] : List Int))), .own none 0 3 1 (List.map encN (([] : List Int))), .tab none 0 22 ([]) 3 1 (encM encN (([] : List (List Int))))]) [2, 1, 0] (by decide) rfl
              replace R0 := H.ext
              exact ⟨none, 0, none, 0, none, 0, ([]), (by first | rfl | (simp; done) | (simp; omega)), H⟩
          ·
            intro K15 hK15 jK584
            refine CW.seq fun K16 hK16 => ?_
            refine CW.region ?_
            refine LW.pure rfl rfl (RV.assign rfl) ?_
            refine LW.nil (hK16 _ _ ?_)
            refine CW.block ?_
            replace H := H.nilOwn 3 1
            replace R0 := H.ext
            replace H := H.nilTab encN 22 3 1
            replace R0 := H.ext
            replace H := H.pick (L' := [.own none 0 3 1 (List.map encN (([] : List Int))), .own A1 c1 3 1 (List.map encN ((([] : List Int) ++ a0.demand))), .tab none 0 22 ([]) 3 1 (encM encN (([] : List (List Int)))), .blk b1 25 [.slice A_a0_supply a0.supply.length c_a0_supply, .slice A_a0_demand a0.demand.length c_a0_demand, .slice A_a0_cost a0.cost.length c_a0_cost], .blk b2 25 [.slice none 0 0, .slice none 0 0, .slice none 0 0], .blk b4 25 [.slice none 0 0, .slice A1 (((([] : List Int) ++ a0.demand)).length) c1, .slice none 0 0]]) [1, 3, 0, 4, 5, 2] (by decide) rfl
            replace R0 := H.ext
            replace H := H.cast (L' := [.own none 0 3 1 (List.map encN (([] : List Int))), .own A1 c1 3 1 (List.map encN ((([] : List Int) ++ a0.demand))), .tab none 0 22 ([]) 3 1 (encM encN (([] : List (List Int)))), .blk b1 25 [.slice A_a0_supply a0.supply.length c_a0_supply, .slice A_a0_demand a0.demand.length c_a0_demand, .slice A_a0_cost a0.cost.length c_a0_cost], .blk b2 25 [.slice none 0 0, .slice none 0 0, .slice none 0 0], .blk b4 25 [.slice none ((([] : List Int)).length) 0, .slice A1 (((([] : List Int) ++ a0.demand)).length) c1, .slice none ((([] : List (List Int))).length) 0]]) (by first | rfl | (simp only [List.length_set]; done) | simp)
            refine CW.loop (fun meas ρ wl3 => ∃ (t10_1 : Int) (l3 : List Int) (m3 : List (List Int)) (Al3 : Option Addr) (cl3 : Nat) (hsm3 : List (Option Addr × Nat)) (Am3 : Option Addr) (cm3 : Nat), ref07_Merge_L2 a0 a1 a2 meas t10_1 l3 m3 = some res ∧ ρ = [(1, .int .i64 a1), (2, .int .i64 a2), (3, .pointer (some (⟨b1, 0, none⟩))), (6, .pointer (some (⟨b2, 0, none⟩))), (7, .int .i64 0), (9, .pointer (some (⟨b4, 0, none⟩))), (10, .int .i64 t10_1)] ∧ Hp w wl3 [.own Al3 cl3 3 1 (List.map encN l3), .own A1 c1 3 1 (List.map encN ((([] : List Int) ++ a0.demand))), .tab Am3 cm3 22 hsm3 3 1 (encM encN m3), .blk b1 25 [.slice A_a0_supply a0.supply.length c_a0_supply, .slice A_a0_demand a0.demand.length c_a0_demand, .slice A_a0_cost a0.cost.length c_a0_cost], .blk b2 25 [.slice none 0 0, .slice none 0 0, .slice none 0 0], .blk b4 25 [.slice Al3 l3.length cl3, .slice A1 (((([] : List Int) ++ a0.demand)).length) c1, .slice Am3 m3.length cm3]]) FU ⟨_, ?_, ((0 : Int)), (([] : List Int)), (([] : List (List Int))), none, 0, ([]), none, 0, F, rfl, H⟩ ?_
            · exact ⟨rfl, rfl, rfl, rfl, rfl, rfl, rfl, trivial⟩
            rintro mk1 _ wl3 ⟨t10_1, l3, m3, Al3, cl3, hsm3, Am3, cm3, F, rfl, H⟩
            have R0 := H.ext
            replace F := ref07_Merge_L2_s F
            obtain ⟨mk1, rfl, F⟩ := F
            generalize hrec1 : ref07_Merge_L2 a0 a1 a2 mk1 = rec1 at F
            unfold ref07_Merge_B2 at F
            refine CW.seq fun K17 hK17 => ?_
            refine CW.seq fun K18 hK18 => ?_
            refine CW.region ?_
            refine LW.pure rfl rfl (RV.move rfl) ?_
            refine LW.pure rfl rfl (RV.fieldAddr Tf25_0 rfl) ?_
            refine LW.pure rfl rfl (RV.load1 Tk22 rfl ((H.blk 3 rfl).cells.off 0) rfl) ?_
            refine LW.pure rfl rfl (RV.len Ts22 rfl) ?_
            refine LW.pure rfl rfl (RV.lss rfl rfl) ?_
            refine LW.nil (hK18 _ _ ?_)
            by_cases hp5 : t10_1 < ((a0.supply.length : Int))
            ·
              replace F := ite_y hp5 F
              have hq5 := dec_t hp5
              refine CW.condT rfl hq5 ?_
              refine CW.skip (hK17 _ _ ?_)
              refine CW.seqJ (fun ρ wl4 => (∃ (l2 : List Int) (m2 : List (List Int)) (Al2 : Option Addr) (cl2 : Nat) (hsm2 : List (Option Addr × Nat)) (Am2 : Option Addr) (cm2 : Nat), ref07_Merge_k2 t10_1 rec1 l2 m2 = some res ∧ ρ = [(1, .int .i64 a1), (2, .int .i64 a2), (3, .pointer (some (⟨b1, 0, none⟩))), (6, .pointer (some (⟨b2, 0, none⟩))), (7, .int .i64 0), (9, .pointer (some (⟨b4, 0, none⟩))), (10, .int .i64 t10_1)] ∧ Hp w wl4 [.own Al2 cl2 3 1 (List.map encN l2), .own A1 c1 3 1 (List.map encN ((([] : List Int) ++ a0.demand))), .tab Am2 cm2 22 hsm2 3 1 (encM encN m2), .blk b1 25 [.slice A_a0_supply a0.supply.length c_a0_supply, .slice A_a0_demand a0.demand.length c_a0_demand, .slice A_a0_cost a0.cost.length c_a0_cost], .blk b2 25 [.slice none 0 0, .slice none 0 0, .slice none 0 0], .blk b4 25 [.slice Al2 l2.length cl2, .slice A1 (((([] : List Int) ++ a0.demand)).length) c1, .slice Am2 m2.length cm2]])) ?_ ?_
              ·
                rintro _ wl4 ⟨l2, m2, Al2, cl2, hsm2, Am2, cm2, F, rfl, H⟩
                have R0 := H.ext
                unfold ref07_Merge_k2 at F
                obtain ⟨hg2, F⟩ := gd_some F
                refine CW.region ?_
                refine LW.pure rfl rfl (RV.move rfl) ?_
                refine LW.pure rfl rfl (RV.add rfl rfl hg2) ?_
                refine LW.pure rfl rfl (RV.assign rfl) ?_
                refine LW.nil ?_
                subst hrec1
                refine ⟨mk1, Nat.lt_succ_self _, _, ?_, (t10_1 + 1), l2, m2, Al2, cl2, hsm2, Am2, cm2, F, rfl, H⟩
                exact ⟨rfl, rfl, rfl, rfl, rfl, rfl, rfl, trivial⟩
              ·
                intro K19 hK19 jK739
                refine CW.block ?_
                refine CW.seq fun K20 hK20 => ?_
                refine CW.seq fun K21 hK21 => ?_
                refine CW.region ?_
                refine LW.pure rfl rfl (RV.move rfl) ?_
                refine LW.pure rfl rfl (RV.move rfl) ?_
                refine LW.pure rfl rfl (RV.eqi rfl rfl) ?_
                refine LW.nil (hK21 _ _ ?_)
                by_cases hp6 : t10_1 = a2
                ·
                  replace F := ite_y hp6 F
                  have hq6 := dec_t hp6
                  refine CW.condT rfl hq6 ?_
                  refine CW.exit (jK739 _ _ ⟨_, ?_, ⟨l3, m3, Al3, cl3, hsm3, Am3, cm3, F, rfl, H⟩⟩)
                  exact ⟨rfl, rfl, rfl, rfl, rfl, rfl, rfl, trivial⟩
                ·
                  replace F := ite_n hp6 F
                  have hq6 := dec_f hp6
                  refine CW.condF rfl hq6 ?_
                  refine CW.skip (hK20 _ _ ?_)
                  refine CW.seq fun K22 hK22 => ?_
                  obtain ⟨x1, hbx1, hx1, F⟩ := ix_some F
                  obtain ⟨x7, hbx7, hx7, F⟩ := ix_some F
                  obtain ⟨hg3, F⟩ := gd_some F
                  have H0 := H
                  have hz : wl3.heap.size ≤ wl3.heap.size := Nat.le_refl _
                  refine CW.draw [11] (XB wl3 [.own Al3 cl3 3 1 (List.map encN l3), .own A1 c1 3 1 (List.map encN ((([] : List Int) ++ a0.demand))), .tab Am3 cm3 22 hsm3 3 1 (encM encN m3), .blk b1 25 [.slice A_a0_supply a0.supply.length c_a0_supply, .slice A_a0_demand a0.demand.length c_a0_demand, .slice A_a0_cost a0.cost.length c_a0_cost], .blk b2 25 [.slice none 0 0, .slice none 0 0, .slice none 0 0], .blk b4 25 [.slice Al3 l3.length cl3, .slice A1 (((([] : List Int) ++ a0.demand)).length) c1, .slice Am3 m3.length cm3]] []) (.cons 0 2 (.cons 1 2 (.cons 2 2 (.cons 3 2 (.cons 4 2 (.cons 6 2 (.cons 7 2 (.cons 8 2 (.cons 9 2 (.cons 10 1 (.cons 5 0 (.cons 11 0 (.cons 12 2 (.cons 13 2 .nil)))))))))))))) mixed (by kernel_rfl) fun w13 E3 => ?_
                  replace H := H.grow E3
                  replace R0 := H.ext
                  replace hz := Nat.le_trans hz (Ext.size E3)
                  refine DW.thru rfl rfl rfl (fun _ EQ => RV.fieldAddr Tf25_0 rfl) ?_
                  refine DW.thru rfl rfl rfl (fun _ EQ => RV.load1 Tk22 rfl ((H.thruB 3 rfl EQ (H0.notX [] 3 rfl (by decide))).cells.off 0) rfl) ?_
                  refine DW.thru rfl rfl rfl (fun _ EQ => RV.move rfl) ?_
                  refine DW.thru rfl rfl rfl (fun _ EQ => RV.indexAddr Ts22 rfl rfl hbx1 (h_a0_supply.addr_ hx1)) ?_
                  refine DW.thru rfl rfl rfl (fun _ EQ => RV.load1 Tk3 rfl (H0.old EQ R0 (h_a0_supply.at_ hx1)) rfl) ?_
                  refine DW.thru rfl rfl rfl (fun _ EQ => RV.fieldAddr Tf25_2 rfl) ?_
                  refine DW.thru rfl rfl rfl (fun _ EQ => RV.load1 Tk23 rfl ((H.thruB 3 rfl EQ (H0.notX [] 3 rfl (by decide))).cells.off 2) rfl) ?_
                  refine DW.thru rfl rfl rfl (fun _ EQ => RV.move rfl) ?_
                  obtain ⟨A2, c2, hC1, hS1⟩ := h_a0_cost.at_ hx7
                  refine DW.thru rfl rfl rfl (fun _ EQ => RV.indexAddr Ts23 rfl rfl hbx7 (h_a0_cost.addr hbx7)) ?_
                  refine DW.fix rfl rfl rfl (fun _ EQ => RV.load1 Tk22 rfl (hC1.ext (R0.trans EQ)) rfl) ?_
                  refine DW.sole rfl rfl rfl (OW.buildSlice (e := 3) (vs := []) (cs := []) rfl (fun _ => by kernel_rfl) fun b5 w14 N5 => ?_)
                  refine ⟨fun _ => N5.ext, ModX.ext N5.ext, ?_⟩
                  have G0_b5 : wl3.heap.size ≤ b5 := by rw [N5.at_]; exact hz
                  replace H := H.made' (k := 1) (t := 3) (enc := encN) (l := ([] : List Int)) N5 N5.blk (fun _ => rfl) rfl (by first | decide | omega | (simp; done) | (simp; omega))
                  replace R0 := H.ext
                  replace hz := Nat.le_trans hz (Ext.size N5.ext)
                  refine DW.sole rfl rfl rfl (OW.appendG (enc := encN) (l := ([] : List Int)) (xs := x7) Ts22 (look_slice rfl (by first | rfl | (simp; done) | (simp; omega))) rfl (H.own 0 rfl) (hS1.ext R0) (fun _ => rfl) rfl rfl hg3 (by decide) fun A3 c3 w15 O2 M2 D2 => ?_)
                  have G0_A3 := Fresh.nextZ (Fresh.at_ G0_b5) D2 hz
                  refine ⟨fun h => absurd h (by decide), M2.modx (XB.newA (Fresh.at_ G0_b5)), ?_⟩
                  replace H : Hp w w15 [.own A3 c3 3 1 (List.map encN ((([] : List Int) ++ x7))), .own Al3 cl3 3 1 (List.map encN l3), .own A1 c1 3 1 (List.map encN ((([] : List Int) ++ a0.demand))), .tab Am3 cm3 22 hsm3 3 1 (encM encN m3), .blk b1 25 [.slice A_a0_supply a0.supply.length c_a0_supply, .slice A_a0_demand a0.demand.length c_a0_demand, .slice A_a0_cost a0.cost.length c_a0_cost], .blk b2 25 [.slice none 0 0, .slice none 0 0, .slice none 0 0], .blk b4 25 [.slice Al3 l3.length cl3, .slice A1 (((([] : List Int) ++ a0.demand)).length) c1, .slice Am3 m3.length cm3]] := H.mod 0 rfl M2 O2 D2
                  replace R0 := H.ext
                  replace hz := Nat.le_trans hz M2.size
                  refine DW.thru rfl rfl rfl (fun _ EQ => RV.assign rfl) ?_
                  refine DW.thru rfl rfl rfl (fun _ EQ => RV.assign rfl) ?_
                  refine DW.nil (hK22 _ _ ?_)
                  refine CW.seqJ (fun ρ wl5 => (∃ (t11_1 : Int) (l4 : List Int), ref07_Merge_k3 t10_1 l3 m3 rec1 t11_1 l4 = some res ∧ ρ = [(1, .int .i64 a1), (2, .int .i64 a2), (3, .pointer (some (⟨b1, 0, none⟩))), (6, .pointer (some (⟨b2, 0, none⟩))), (7, .int .i64 0), (9, .pointer (some (⟨b4, 0, none⟩))), (10, .int .i64 t10_1), (11, .int .i64 t11_1), (12, .slice A3 l4.length c3)] ∧ Hp w wl5 [.own A3 c3 3 1 (List.map encN l4), .own Al3 cl3 3 1 (List.map encN l3), .own A1 c1 3 1 (List.map encN ((([] : List Int) ++ a0.demand))), .tab Am3 cm3 22 hsm3 3 1 (encM encN m3), .blk b1 25 [.slice A_a0_supply a0.supply.length c_a0_supply, .slice A_a0_demand a0.demand.length c_a0_demand, .slice A_a0_cost a0.cost.length c_a0_cost], .blk b2 25 [.slice none 0 0, .slice none 0 0, .slice none 0 0], .blk b4 25 [.slice Al3 l3.length cl3, .slice A1 (((([] : List Int) ++ a0.demand)).length) c1, .slice Am3 m3.length cm3]])) ?_ ?_
                  ·
                    rintro _ wl5 ⟨t11_1, l4, F, rfl, H⟩
                    have R0 := H.ext
                    unfold ref07_Merge_k3 at F
                    refine CW.seq fun K23 hK23 => ?_
                    obtain ⟨hg4, F⟩ := gd_some F
                    refine CW.region ?_
                    refine LW.pure rfl rfl (RV.fieldAddr Tf25_0 rfl) ?_
                    refine LW.pure rfl rfl (RV.load1 Tk22 rfl ((H.blk 6 rfl).cells.off 0) rfl) ?_
                    refine LW.pure rfl rfl (RV.move rfl) ?_
                    refine LW.go rfl rfl (OW.buildSlice (e := 3) (vs := [.int .i64 t11_1]) (cs := [.int .i64 t11_1]) rfl (fun _ => by kernel_rfl) fun b6 w16 N6 => ?_)
                    replace H := H.made' (k := 1) (t := 3) (enc := encN) (l := ([t11_1] : List Int)) N6 N6.blk (fun _ => rfl) rfl (by first | decide | omega | (simp; done) | (simp; omega))
                    replace R0 := H.ext
                    refine LW.go rfl rfl (OW.appendG (enc := encN) (l := l3) (xs := ([t11_1] : List Int)) Ts22 rfl (look_slice rfl (by first | rfl | (simp; done) | (simp; omega))) (H.own 2 rfl) (H.own 0 rfl).sl (fun _ => rfl) rfl rfl hg4 (by decide) fun A4 c4 w17 O3 M3 D3 => ?_)
                    replace H : Hp w w17 [.own (some ⟨b6, 0, none⟩) ((([t11_1] : List Int)).length) 3 1 (List.map encN (([t11_1] : List Int))), .own A3 c3 3 1 (List.map encN l4), .own A4 c4 3 1 (List.map encN ((l3 ++ ([t11_1] : List Int)))), .own A1 c1 3 1 (List.map encN ((([] : List Int) ++ a0.demand))), .tab Am3 cm3 22 hsm3 3 1 (encM encN m3), .blk b1 25 [.slice A_a0_supply a0.supply.length c_a0_supply, .slice A_a0_demand a0.demand.length c_a0_demand, .slice A_a0_cost a0.cost.length c_a0_cost], .blk b2 25 [.slice none 0 0, .slice none 0 0, .slice none 0 0], .blk b4 25 [.slice Al3 l3.length cl3, .slice A1 (((([] : List Int) ++ a0.demand)).length) c1, .slice Am3 m3.length cm3]] := H.mod 2 rfl M3 O3 D3
                    replace R0 := H.ext
                    refine LW.pure rfl rfl (RV.fieldAddr Tf25_0 rfl) ?_
                    refine LW.go rfl rfl (OW.store Tk22 rfl rfl (H.blk 7 rfl) (off := 0) (vs := [.slice A4 (((l3 ++ ([t11_1] : List Int))).length) c4]) rfl rfl rfl rfl rfl fun w18 S6 => ?_)
                    replace H : Hp w w18 [.own (some ⟨b6, 0, none⟩) ((([t11_1] : List Int)).length) 3 1 (List.map encN (([t11_1] : List Int))), .own A3 c3 3 1 (List.map encN l4), .own A4 c4 3 1 (List.map encN ((l3 ++ ([t11_1] : List Int)))), .own A1 c1 3 1 (List.map encN ((([] : List Int) ++ a0.demand))), .tab Am3 cm3 22 hsm3 3 1 (encM encN m3), .blk b1 25 [.slice A_a0_supply a0.supply.length c_a0_supply, .slice A_a0_demand a0.demand.length c_a0_demand, .slice A_a0_cost a0.cost.length c_a0_cost], .blk b2 25 [.slice none 0 0, .slice none 0 0, .slice none 0 0], .blk b4 25 [.slice A4 (((l3 ++ ([t11_1] : List Int))).length) c4, .slice A1 (((([] : List Int) ++ a0.demand)).length) c1, .slice Am3 m3.length cm3]] := H.stored 7 rfl S6
                    replace R0 := H.ext
                    refine LW.nil (hK23 _ _ ?_)
                    obtain ⟨hg5, F⟩ := gd_some F
                    refine CW.region ?_
                    refine LW.pure rfl rfl (RV.fieldAddr Tf25_2 rfl) ?_
                    refine LW.pure rfl rfl (RV.load1 Tk23 rfl ((H.blk 7 rfl).cells.off 2) rfl) ?_
                    refine LW.pure rfl rfl (RV.move rfl) ?_
                    refine LW.go rfl rfl (OW.buildSlice (e := 22) (vs := [.slice A3 l4.length c3]) (cs := [.slice A3 l4.length c3]) rfl (fun _ => by kernel_rfl) fun b7 w19 N7 => ?_)
                    replace H := H.made' (k := 1) (t := 22) (enc := encH) (l := ([((A3, c3), List.map encN l4)] : List ((Option Addr × Nat) × List (List Value)))) N7 (by have q := N7.blk; simp only [List.flatMap_cons, List.flatMap_nil, encH, List.length_map, List.append_nil, List.cons_append, List.nil_append]; first | done | exact q) (fun _ => rfl) rfl (by first | decide | omega | (simp; done) | (simp; omega))
                    replace R0 := H.ext
                    refine LW.go rfl rfl (OW.appendT (enc := encN) (m := m3) (l := l4) Ts23 rfl rfl (H.tab 5 rfl) (H.own 0 rfl).sl rfl hg5 (by decide) fun A5 c5 w20 O4 M4 D4 => ?_)
                    replace H : Hp w w20 [.own (some ⟨b7, 0, none⟩) ((([((A3, c3), List.map encN l4)] : List ((Option Addr × Nat) × List (List Value)))).length) 22 1 (List.map encH (([((A3, c3), List.map encN l4)] : List ((Option Addr × Nat) × List (List Value))))), .own (some ⟨b6, 0, none⟩) ((([t11_1] : List Int)).length) 3 1 (List.map encN (([t11_1] : List Int))), .own A4 c4 3 1 (List.map encN ((l3 ++ ([t11_1] : List Int)))), .own A1 c1 3 1 (List.map encN ((([] : List Int) ++ a0.demand))), .tab A5 c5 22 ((hsm3 ++ [(A3, c3)])) 3 1 (encM encN ((m3 ++ [l4]))), .blk b1 25 [.slice A_a0_supply a0.supply.length c_a0_supply, .slice A_a0_demand a0.demand.length c_a0_demand, .slice A_a0_cost a0.cost.length c_a0_cost], .blk b2 25 [.slice none 0 0, .slice none 0 0, .slice none 0 0], .blk b4 25 [.slice A4 (((l3 ++ ([t11_1] : List Int))).length) c4, .slice A1 (((([] : List Int) ++ a0.demand)).length) c1, .slice Am3 m3.length cm3]] := H.tabPush 5 2 (by decide) rfl rfl M4 D4 O4
                    replace R0 := H.ext
                    refine LW.pure rfl rfl (RV.fieldAddr Tf25_2 rfl) ?_
                    refine LW.go rfl rfl (OW.store Tk23 rfl rfl (H.blk 7 rfl) (off := 2) (vs := [.slice A5 (((m3 ++ [l4])).length) c5]) rfl rfl rfl rfl rfl fun w21 S7 => ?_)
                    replace H : Hp w w21 [.own (some ⟨b7, 0, none⟩) ((([((A3, c3), List.map encN l4)] : List ((Option Addr × Nat) × List (List Value)))).length) 22 1 (List.map encH (([((A3, c3), List.map encN l4)] : List ((Option Addr × Nat) × List (List Value))))), .own (some ⟨b6, 0, none⟩) ((([t11_1] : List Int)).length) 3 1 (List.map encN (([t11_1] : List Int))), .own A4 c4 3 1 (List.map encN ((l3 ++ ([t11_1] : List Int)))), .own A1 c1 3 1 (List.map encN ((([] : List Int) ++ a0.demand))), .tab A5 c5 22 ((hsm3 ++ [(A3, c3)])) 3 1 (encM encN ((m3 ++ [l4]))), .blk b1 25 [.slice A_a0_supply a0.supply.length c_a0_supply, .slice A_a0_demand a0.demand.length c_a0_demand, .slice A_a0_cost a0.cost.length c_a0_cost], .blk b2 25 [.slice none 0 0, .slice none 0 0, .slice none 0 0], .blk b4 25 [.slice A4 (((l3 ++ ([t11_1] : List Int))).length) c4, .slice A1 (((([] : List Int) ++ a0.demand)).length) c1, .slice A5 (((m3 ++ [l4])).length) c5]] := H.stored 7 rfl S7
                    replace R0 := H.ext
                    replace H := H.pick (L' := [.own A4 c4 3 1 (List.map encN ((l3 ++ ([t11_1] : List Int)))), .own A1 c1 3 1 (List.map encN ((([] : List Int) ++ a0.demand))), .tab A5 c5 22 ((hsm3 ++ [(A3, c3)])) 3 1 (encM encN ((m3 ++ [l4]))), .blk b1 25 [.slice A_a0_supply a0.supply.length c_a0_supply, .slice A_a0_demand a0.demand.length c_a0_demand, .slice A_a0_cost a0.cost.length c_a0_cost], .blk b2 25 [.slice none 0 0, .slice none 0 0, .slice none 0 0], .blk b4 25 [.slice A4 (((l3 ++ ([t11_1] : List Int))).length) c4, .slice A1 (((([] : List Int) ++ a0.demand)).length) c1, .slice A5 (((m3 ++ [l4])).length) c5]]) [2, 3, 4, 5, 6, 7] (by decide) rfl
                    replace R0 := H.ext
                    refine LW.nil (jK739 _ _ ⟨_, ?_, ⟨((l3 ++ ([t11_1] : List Int))), ((m3 ++ [l4])), A4, c4, ((hsm3 ++ [(A3, c3)])), A5, c5, F, rfl, H⟩⟩)
                    exact ⟨rfl, rfl, rfl, rfl, rfl, rfl, rfl, trivial⟩
                  ·
                    intro K24 hK24 jK756
                    refine CW.seq fun K25 hK25 => ?_
                    refine CW.region ?_
                    refine LW.pure rfl rfl (RV.move rfl) ?_
                    refine LW.pure rfl rfl (RV.move rfl) ?_
                    refine LW.pure rfl rfl (RV.eqi rfl rfl) ?_
                    refine LW.nil (hK25 _ _ ?_)
                    by_cases hp7 : t10_1 = a1
                    ·
                      replace F := ite_y hp7 F
                      have hq7 := dec_t hp7
                      refine CW.condT rfl hq7 ?_
                      refine CW.seq fun K26 hK26 => ?_
                      obtain ⟨x2, hbx2, hx2, F⟩ := ix_some F
                      obtain ⟨hg6, F⟩ := gd_some F
                      refine CW.region ?_
                      refine LW.pure rfl rfl (RV.move rfl) ?_
                      refine LW.pure rfl rfl (RV.fieldAddr Tf25_0 rfl) ?_
                      refine LW.pure rfl rfl (RV.load1 Tk22 rfl ((H.blk 4 rfl).cells.off 0) rfl) ?_
                      refine LW.pure rfl rfl (RV.move rfl) ?_
                      refine LW.pure rfl rfl (RV.indexAddr Ts22 rfl rfl hbx2 (h_a0_supply.addr_ hx2)) ?_
                      refine LW.pure rfl rfl (RV.load1 Tk3 rfl ((h_a0_supply.at_ hx2).ext R0) rfl) ?_
                      refine LW.pure rfl rfl (RV.add rfl rfl hg6) ?_
                      refine LW.pure rfl rfl (RV.assign rfl) ?_
                      refine LW.nil (hK26 _ _ ?_)
                      refine CW.seq fun K27 hK27 => ?_
                      refine CW.region ?_
                      refine LW.pure rfl rfl (RV.assign rfl) ?_
                      refine LW.nil (hK27 _ _ ?_)
                      refine CW.block ?_
                      refine CW.loop (fun meas ρ wl6 => ∃ (t13_1 : Int) (l5 : List Int), ref07_Merge_L1 a0 a2 t10_1 l3 m3 rec1 x1 x2 meas t13_1 l5 = some res ∧ ρ = [(1, .int .i64 a1), (2, .int .i64 a2), (3, .pointer (some (⟨b1, 0, none⟩))), (6, .pointer (some (⟨b2, 0, none⟩))), (7, .int .i64 0), (9, .pointer (some (⟨b4, 0, none⟩))), (10, .int .i64 t10_1), (11, .int .i64 (x1 + x2)), (12, .slice A3 l5.length c3), (13, .int .i64 t13_1)] ∧ Hp w wl6 [.own A3 c3 3 1 (List.map encN l5), .own Al3 cl3 3 1 (List.map encN l3), .own A1 c1 3 1 (List.map encN ((([] : List Int) ++ a0.demand))), .tab Am3 cm3 22 hsm3 3 1 (encM encN m3), .blk b1 25 [.slice A_a0_supply a0.supply.length c_a0_supply, .slice A_a0_demand a0.demand.length c_a0_demand, .slice A_a0_cost a0.cost.length c_a0_cost], .blk b2 25 [.slice none 0 0, .slice none 0 0, .slice none 0 0], .blk b4 25 [.slice Al3 l3.length cl3, .slice A1 (((([] : List Int) ++ a0.demand)).length) c1, .slice Am3 m3.length cm3]]) FU ⟨_, ?_, ((0 : Int)), ((([] : List Int) ++ x7)), F, rfl, H⟩ ?_
                      · exact ⟨rfl, rfl, rfl, rfl, rfl, rfl, rfl, rfl, (look_slice rfl (by first | rfl | (simp; done) | (simp; omega))), rfl, trivial⟩
                      rintro mk2 _ wl6 ⟨t13_1, l5, F, rfl, H⟩
                      have R0 := H.ext
                      replace F := ref07_Merge_L1_s F
                      obtain ⟨mk2, rfl, F⟩ := F
                      generalize hrec2 : ref07_Merge_L1 a0 a2 t10_1 l3 m3 rec1 x1 x2 mk2 = rec2 at F
                      unfold ref07_Merge_B1 at F
                      refine CW.seq fun K28 hK28 => ?_
                      refine CW.seq fun K29 hK29 => ?_
                      refine CW.region ?_
                      refine LW.pure rfl rfl (RV.move rfl) ?_
                      refine LW.pure rfl rfl (RV.move rfl) ?_
                      refine LW.pure rfl rfl (RV.len Ts22 rfl) ?_
                      refine LW.pure rfl rfl (RV.lss rfl rfl) ?_
                      refine LW.nil (hK29 _ _ ?_)
                      by_cases hp8 : t13_1 < ((l5.length : Int))
                      ·
                        replace F := ite_y hp8 F
                        have hq8 := dec_t hp8
                        refine CW.condT rfl hq8 ?_
                        refine CW.skip (hK28 _ _ ?_)
                        refine CW.seq fun K30 hK30 => ?_
                        refine CW.block ?_
                        obtain ⟨x3, hbx3, hx3, F⟩ := ix_some F
                        obtain ⟨x4, hbx4, hx4, F⟩ := ix_some F
                        obtain ⟨x5, hbx5, hx5, F⟩ := ix_some F
                        obtain ⟨x6, hbx6, hx6, F⟩ := ix_some F
                        refine CW.draw [16] (fun _ => True) (.cons 0 1 (.cons 1 1 (.cons 2 1 (.cons 3 1 (.cons 4 1 (.cons 5 1 (.cons 6 1 (.cons 7 1 (.cons 8 1 (.cons 9 1 (.cons 10 1 (.cons 11 1 (.cons 12 1 (.cons 13 1 (.cons 14 1 (.cons 15 1 (.cons 16 0 .nil))))))))))))))))) mixed (by kernel_rfl) fun w22 E4 => ?_
                        replace H := H.grow E4
                        replace R0 := H.ext
                        refine DW.fix rfl rfl rfl (fun _ EQ => RV.move rfl) ?_
                        refine DW.fix rfl rfl rfl (fun _ EQ => RV.move rfl) ?_
                        refine DW.fix rfl rfl rfl (fun _ EQ => RV.move rfl) ?_
                        refine DW.fix rfl rfl rfl (fun _ EQ => RV.move rfl) ?_
                        refine DW.fix rfl rfl rfl (fun _ EQ => RV.indexAddr Ts22 rfl rfl hbx3 ((H.own 0 rfl).sl.addr_ hx3)) ?_
                        refine DW.fix rfl rfl rfl (fun _ EQ => RV.load1 Tk3 rfl (((H.grow EQ).own 0 rfl).sl.at_ hx3) rfl) ?_
                        refine DW.fix rfl rfl rfl (fun _ EQ => RV.fieldAddr Tf25_2 rfl) ?_
                        refine DW.fix rfl rfl rfl (fun _ EQ => RV.load1 Tk23 rfl (((H.grow EQ).blk 4 rfl).cells.off 2) rfl) ?_
                        refine DW.fix rfl rfl rfl (fun _ EQ => RV.move rfl) ?_
                        obtain ⟨A6, c6, hC2, hS2⟩ := h_a0_cost.at_ hx4
                        refine DW.fix rfl rfl rfl (fun _ EQ => RV.indexAddr Ts23 rfl rfl hbx4 (h_a0_cost.addr hbx4)) ?_
                        refine DW.fix rfl rfl rfl (fun _ EQ => RV.load1 Tk22 rfl (hC2.ext (R0.trans EQ)) rfl) ?_
                        refine DW.fix rfl rfl rfl (fun _ EQ => RV.move rfl) ?_
                        refine DW.fix rfl rfl rfl (fun _ EQ => RV.indexAddr Ts22 rfl rfl hbx5 (hS2.addr_ hx5)) ?_
                        refine DW.fix rfl rfl rfl (fun _ EQ => RV.load1 Tk3 rfl ((hS2.at_ hx5).ext (R0.trans EQ)) rfl) ?_
                        refine DW.fix rfl rfl rfl (fun _ EQ => RV.min2 rfl rfl) ?_
                        refine DW.fix rfl rfl rfl (fun _ EQ => RV.indexAddr Ts22 rfl rfl hbx6 ((H.own 0 rfl).sl.addr_ hx6)) ?_
                        refine DW.sole rfl rfl rfl (OW.storeO (enc := encN) (vs := [.int .i64 (min x3 x5)]) 0 (min x3 x5) Tk3 rfl rfl (H.own 0 rfl) (fun _ => rfl) rfl hx6 rfl rfl (by decide) rfl rfl fun w23 M5 O5 => ?_)
                        refine ⟨fun h => absurd h (by decide), M5.modx (fun _ _ => trivial), ?_⟩
                        replace H : Hp w w23 [.own A3 c3 3 1 (List.map encN ((l5.set (Int.toNat t13_1) (min x3 x5)))), .own Al3 cl3 3 1 (List.map encN l3), .own A1 c1 3 1 (List.map encN ((([] : List Int) ++ a0.demand))), .tab Am3 cm3 22 hsm3 3 1 (encM encN m3), .blk b1 25 [.slice A_a0_supply a0.supply.length c_a0_supply, .slice A_a0_demand a0.demand.length c_a0_demand, .slice A_a0_cost a0.cost.length c_a0_cost], .blk b2 25 [.slice none 0 0, .slice none 0 0, .slice none 0 0], .blk b4 25 [.slice Al3 l3.length cl3, .slice A1 (((([] : List Int) ++ a0.demand)).length) c1, .slice Am3 m3.length cm3]] := H.mod 0 rfl M5 O5 (.inl rfl)
                        replace R0 := H.ext
                        refine DW.nil (hK30 _ _ ?_)
                        obtain ⟨hg7, F⟩ := gd_some F
                        refine CW.region ?_
                        refine LW.pure rfl rfl (RV.move rfl) ?_
                        refine LW.pure rfl rfl (RV.add rfl rfl hg7) ?_
                        refine LW.pure rfl rfl (RV.assign rfl) ?_
                        refine LW.nil ?_
                        subst hrec2
                        refine ⟨mk2, Nat.lt_succ_self _, _, ?_, (t13_1 + 1), ((l5.set (Int.toNat t13_1) (min x3 x5))), F, rfl, H⟩
                        exact ⟨rfl, rfl, rfl, rfl, rfl, rfl, rfl, rfl, (look_slice rfl (by first | rfl | (simp; done) | (simp; omega))), rfl, trivial⟩
                      ·
                        replace F := ite_n hp8 F
                        have hq8 := dec_f hp8
                        refine CW.condF rfl hq8 ?_
                        refine CW.exit (jK756 _ _ ⟨_, ?_, ⟨(x1 + x2), l5, F, rfl, H⟩⟩)
                        exact ⟨rfl, rfl, rfl, rfl, rfl, rfl, rfl, rfl, (look_slice rfl (by first | rfl | (simp; done) | (simp; omega))), trivial⟩
                    ·
                      replace F := ite_n hp7 F
                      have hq7 := dec_f hp7
                      refine CW.condF rfl hq7 ?_
                      refine CW.skip (jK756 _ _ ⟨_, ?_, ⟨x1, ((([] : List Int) ++ x7)), F, rfl, H⟩⟩)
                      exact ⟨rfl, rfl, rfl, rfl, rfl, rfl, rfl, rfl, (look_slice rfl (by first | rfl | (simp; done) | (simp; omega))), trivial⟩
            ·
              replace F := ite_n hp5 F
              have hq5 := dec_f hp5
              refine CW.condF rfl hq5 ?_
              replace H := H.pick (L' := [.own Al3 cl3 3 1 (List.map encN l3), .own A1 c1 3 1 (List.map encN ((([] : List Int) ++ a0.demand))), .tab Am3 cm3 22 hsm3 3 1 (encM encN m3), .blk b2 25 [.slice none 0 0, .slice none 0 0, .slice none 0 0], .blk b4 25 [.slice Al3 l3.length cl3, .slice A1 (((([] : List Int) ++ a0.demand)).length) c1, .slice Am3 m3.length cm3]]) [0, 1, 2, 4, 5] (by decide) rfl
              replace R0 := H.ext
              refine CW.exit (jK584 _ _ ⟨_, ?_, ⟨l3, m3, Al3, cl3, hsm3, Am3, cm3, F, rfl, H⟩⟩)
              exact ⟨rfl, rfl, rfl, trivial⟩
    ·
      intro K31 hK31 jK769
      obtain ⟨hg8, F⟩ := gd_some F
      obtain ⟨r3, hr3, F⟩ := bnd_some F
      by_cases hp9 : r3 = true
      ·
        replace F := ite_y hp9 F
        have hq9 : r3 = true := hp9
        obtain ⟨hg9, F⟩ := gd_some F
        obtain ⟨r4, hr4, F⟩ := bnd_some F
        refine CW.region ?_
        refine LW.pure rfl rfl (RV.move rfl) ?_
        refine LW.pure rfl rfl (RV.fieldAddr Tf25_0 rfl) ?_
        refine LW.pure rfl rfl (RV.load1 Tk22 rfl ((H.blk 1 rfl).cells.off 0) rfl) ?_
        refine LW.pure rfl rfl (RV.len Ts22 rfl) ?_
        refine LW.pure rfl rfl (RV.sub rfl rfl hg8) ?_
        refine LW.go rfl rfl (OW.call Tc58 rfl (ref07_within_ok (a0 := a1) (a1 := (0 : Int)) (a2 := ((a0.supply.length : Int)) - 1) hr3) ?_)
        rintro _ w24 ⟨rfl, E5⟩
        refine ⟨_, rfl, ?_⟩
        replace H := H.grow E5
        replace R0 := H.ext
        refine LW.pure rfl rfl (RV.not rfl) ?_
        refine LW.pure rfl rfl (RV.move rfl) ?_
        refine LW.pureYB rfl rfl rfl rfl (not_f hq9) (RV.move rfl) ?_
        refine LW.pureYB rfl rfl rfl rfl (not_f hq9) (RV.fieldAddr Tf25_0 rfl) ?_
        refine LW.pureYB rfl rfl rfl rfl (not_f hq9) (RV.load1 Tk22 rfl ((H.blk 1 rfl).cells.off 0) rfl) ?_
        refine LW.pureYB rfl rfl rfl rfl (not_f hq9) (RV.len Ts22 rfl) ?_
        refine LW.pureYB rfl rfl rfl rfl (not_f hq9) (RV.sub rfl rfl hg9) ?_
        refine LW.yesB rfl rfl rfl rfl (not_f hq9) (OW.call Tc58 rfl (ref07_within_ok (a0 := a2) (a1 := (0 : Int)) (a2 := ((a0.supply.length : Int)) - 1) hr4) ?_)
        rintro _ w25 ⟨rfl, E6⟩
        refine ⟨_, rfl, ?_⟩
        replace H := H.grow E6
        replace R0 := H.ext
        refine LW.pureYB rfl rfl rfl rfl (not_f hq9) (RV.not rfl) ?_
        refine LW.pure rfl rfl (RV.pickFB rfl (not_f hq9) rfl) ?_
        replace H := H.pick (L' := [.blk b1 25 [.slice A_a0_supply a0.supply.length c_a0_supply, .slice A_a0_demand a0.demand.length c_a0_demand, .slice A_a0_cost a0.cost.length c_a0_cost], .blk b2 25 [.slice none 0 0, .slice none 0 0, .slice none 0 0]]) [1, 0] (by decide) rfl
        replace R0 := H.ext
        refine LW.nil (jK769 _ _ ⟨_, ?_, ⟨(!r4), F, rfl, H⟩⟩)
        exact ⟨rfl, rfl, rfl, rfl, rfl, rfl, trivial⟩
      ·
        replace F := ite_n hp9 F
        have hq9 : r3 = false := raw_f hp9
        refine CW.region ?_
        refine LW.pure rfl rfl (RV.move rfl) ?_
        refine LW.pure rfl rfl (RV.fieldAddr Tf25_0 rfl) ?_
        refine LW.pure rfl rfl (RV.load1 Tk22 rfl ((H.blk 1 rfl).cells.off 0) rfl) ?_
        refine LW.pure rfl rfl (RV.len Ts22 rfl) ?_
        refine LW.pure rfl rfl (RV.sub rfl rfl hg8) ?_
        refine LW.go rfl rfl (OW.call Tc58 rfl (ref07_within_ok (a0 := a1) (a1 := (0 : Int)) (a2 := ((a0.supply.length : Int)) - 1) hr3) ?_)
        rintro _ w26 ⟨rfl, E7⟩
        refine ⟨_, rfl, ?_⟩
        replace H := H.grow E7
        replace R0 := H.ext
        refine LW.pure rfl rfl (RV.not rfl) ?_
        refine LW.pure rfl rfl (RV.move rfl) ?_
        refine LW.noB rfl rfl rfl rfl (ne_beq (v := true) (not_t hq9) rfl) ?_
        refine LW.noB rfl rfl rfl rfl (ne_beq (v := true) (not_t hq9) rfl) ?_
        refine LW.noB rfl rfl rfl rfl (ne_beq (v := true) (not_t hq9) rfl) ?_
        refine LW.noB rfl rfl rfl rfl (ne_beq (v := true) (not_t hq9) rfl) ?_
        refine LW.noB rfl rfl rfl rfl (ne_beq (v := true) (not_t hq9) rfl) ?_
        refine LW.noB rfl rfl rfl rfl (ne_beq (v := true) (not_t hq9) rfl) ?_
        refine LW.noB rfl rfl rfl rfl (ne_beq (v := true) (not_t hq9) rfl) ?_
        refine LW.pure rfl rfl (RV.pickTB rfl (not_t hq9) rfl) ?_
        replace H := H.pick (L' := [.blk b1 25 [.slice A_a0_supply a0.supply.length c_a0_supply, .slice A_a0_demand a0.demand.length c_a0_demand, .slice A_a0_cost a0.cost.length c_a0_cost], .blk b2 25 [.slice none 0 0, .slice none 0 0, .slice none 0 0]]) [1, 0] (by decide) rfl
        replace R0 := H.ext
        refine LW.nil (jK769 _ _ ⟨_, ?_, ⟨true, F, rfl, H⟩⟩)
        exact ⟨rfl, rfl, rfl, rfl, rfl, rfl, trivial⟩
  ·
    replace F := ite_n hp1 F
    have hq1 := dec_f hp1
    refine CW.condT rfl (not_t hq1) ?_
    refine CW.seq fun K32 hK32 => ?_
    refine CW.region ?_
    refine LW.pure rfl rfl (RV.build (vs := []) (cs := [.slice none 0 0, .slice none 0 0, .slice none 0 0]) rfl (fun _ => by kernel_rfl)) ?_
    refine LW.pure rfl rfl (RV.move rfl) ?_
    refine LW.go rfl rfl (OW.store Tk25 rfl rfl (H.blk 0 rfl) (off := 0) (vs := [.slice none 0 0, .slice none 0 0, .slice none 0 0]) rfl rfl rfl rfl rfl fun w27 S8 => ?_)
    replace H : Hp w w27 [.blk b2 25 [.slice none 0 0, .slice none 0 0, .slice none 0 0], .blk b1 25 [.slice A_a0_supply a0.supply.length c_a0_supply, .slice A_a0_demand a0.demand.length c_a0_demand, .slice A_a0_cost a0.cost.length c_a0_cost]] := H.stored 0 rfl S8
    replace R0 := H.ext
    refine LW.pure rfl rfl (RV.assign rfl) ?_
    refine LW.nil (hK32 _ _ ?_)
    refine CW.ret ?_
    obtain rfl := Option.some.inj F
    refine ⟨_, (ResOK.two ⟨_, rfl, run_loadVar_agg Tk25 (H.blk 0 rfl).cells (us := [.slice none 0 0, .slice none 0 0, .slice none 0 0]) rfl rfl⟩ rfl), ?_⟩
    replace H := H.nilOwn 3 1
    replace R0 := H.ext
    replace H := H.nilOwn 3 1
    replace R0 := H.ext
    replace H := H.nilTab encN 22 3 1
    replace R0 := H.ext
    replace H := H.pick (L' := [.own none 0 3 1 (List.map encN (([] : List Int))), .own none 0 3 1 (List.map encN (([] : List Int))), .tab none 0 22 ([]) 3 1 (encM encN (([] : List (List Int))))]) [2, 1, 0] (by decide) rfl
    replace R0 := H.ext
    exact ⟨none, 0, none, 0, none, 0, ([]), (by first | rfl | (simp; done) | (simp; omega)), H⟩
end Go.D7

set_option linter.unusedVariables false
set_option linter.unusedSimpArgs false
namespace Go.D7
open Go.Tb Go.Proofs Go.RowKit
theorem Tc73 : callable Try.prog 73 = true := by kernel_rfl
theorem Tc74 : callable Try.prog 74 = true := by kernel_rfl
set_option maxRecDepth 20000 in
theorem slices_Delete_int_core {l : List Int} {A : Option Addr} {c i j : Nat} {w : World} (o : Own w A c 3 1 (l.map encN)) (hij : i ≤ j) (hj : j ≤ l.length) : Calls Try.prog 73 #[.slice A l.length c, .int .i64 (i : Int), .int .i64 (j : Int)] w (fun e w' => e = .returned (.slice A (l.take i ++ l.drop j).length c) ∧ Own w' A c 3 1 ((l.take i ++ l.drop j).map encN) ∧ Mod w w' A) := by
  have hc : l.length ≤ c := o.sl.le
  refine calls_of_cw (args := [.slice A l.length c, .int .i64 (i : Int), .int .i64 (j : Int)]) Try.func73 rfl rfl rfl rfl ?_
  refine CW.seq fun K1 hK1 => ?_
  refine CW.region ?_
  refine LW.pure rfl rfl (RV.assign rfl) ?_
  refine LW.nil (hK1 _ _ ?_)
  refine CW.seq fun K2 hK2 => ?_
  refine CW.region ?_
  refine LW.pure rfl rfl (RV.move rfl) ?_
  refine LW.pure rfl rfl (RV.move rfl) ?_
  refine LW.pure rfl rfl (RV.move rfl) ?_
  refine LW.pure rfl rfl (RV.move rfl) ?_
  refine LW.pure rfl rfl (RV.len Ts22 rfl) ?_
  refine LW.pure rfl rfl (RV.sliceLHM Ts22 rfl rfl rfl rfl ⟨by omega, by omega, by omega, by omega⟩) ?_
  refine LW.nil (hK2 _ _ ?_)
  refine CW.seq fun K3 hK3 => ?_
  refine CW.seq fun K4 hK4 => ?_
  refine CW.region ?_
  refine LW.pure rfl rfl (RV.move rfl) ?_
  refine LW.pure rfl rfl (RV.move rfl) ?_
  refine LW.pure rfl rfl (RV.eqi rfl rfl) ?_
  refine LW.nil (hK4 _ _ ?_)
  by_cases he : (i : Int) = (j : Int)
  · refine CW.condT rfl (dec_t he) ?_
    refine CW.seq fun K5 hK5 => ?_
    refine CW.region ?_
    refine LW.pure rfl rfl (RV.move rfl) ?_
    refine LW.pure rfl rfl (RV.assign rfl) ?_
    refine LW.nil (hK5 _ _ ?_)
    refine CW.ret ?_
    obtain rfl : i = j := by omega
    have e1 : l.take i ++ l.drop i = l := List.take_append_drop i l
    refine ⟨_, (ResOK.one rfl), ?_⟩
    rw [e1]
    exact ⟨rfl, o, Mod.refl _ _⟩
  · refine CW.condF rfl (dec_f he) ?_
    refine CW.skip (hK3 _ _ ?_)
    obtain ⟨b, rfl⟩ := o.at0 (by omega)
    refine CW.seq fun K6 hK6 => ?_
    refine CW.region ?_
    refine LW.pure rfl rfl (RV.move rfl) ?_
    refine LW.pure rfl rfl (RV.len Ts22 rfl) ?_
    refine LW.pure rfl rfl (RV.assign rfl) ?_
    refine LW.nil (hK6 _ _ ?_)
    refine CW.seq fun K7 hK7 => ?_
    have hl1 : (l.drop j).length = l.length - j := by simp
    have hl2 : (l.take i).length = i := by simp; omega
    have hAj : ∃ a, cutA (some (⟨b, 0, none⟩ : Addr)) c 1 j = some a := by unfold cutA; split <;> exact ⟨_, rfl⟩
    refine CW.draw [6] (fun _ => True) (.cons 0 2 (.cons 1 2 (.cons 2 1 (.cons 3 2 (.cons 4 2 (.cons 5 1 (.cons 6 0 (.cons 7 2 .nil)))))))) mixed (by kernel_rfl) fun w2 E => ?_
    have o2 := o.ext E
    refine DW.thru rfl rfl rfl (fun _ EQ => RV.move rfl) ?_
    refine DW.thru rfl rfl rfl (fun _ EQ => RV.move rfl) ?_
    refine DW.fix rfl rfl rfl (fun _ EQ => RV.sliceHi Ts22 rfl rfl ⟨by omega, by omega⟩) ?_
    refine DW.thru rfl rfl rfl (fun _ EQ => RV.move rfl) ?_
    refine DW.thru rfl rfl rfl (fun _ EQ => RV.move rfl) ?_
    refine DW.fix rfl rfl rfl (fun _ EQ => RV.sliceLo Ts22 rfl rfl ⟨Int.natCast_nonneg _, by omega⟩ hc) ?_
    have src := o2.sl.cut j l.length hj (Nat.le_refl _)
    rw [List.take_length] at src
    refine DW.sole rfl rfl rfl (OW.appendOver (l := l.take i) (xs := l.drop j) (zs := l.drop i) Ts22 rfl (by simp; omega) rfl (by rw [hl1]; simp) (by rw [List.take_append_drop]; exact o2) hAj src (fun _ => rfl) (fun _ => rfl) (by decide) (by simp; omega) fun w3 o3 M3 => ?_)
    refine ⟨fun h => absurd h (by decide), M3.modx (fun _ _ => trivial), ?_⟩
    refine DW.thru rfl rfl rfl (fun _ EQ => RV.assign rfl) ?_
    refine DW.nil (hK7 _ _ ?_)
    have hn : (l.take i ++ l.drop j).length = i + (l.length - j) := by rw [List.length_append, hl1, hl2]
    have hd : (List.drop (l.drop j).length (l.drop i)) = l.drop (i + (l.length - j)) := by rw [List.drop_drop, hl1]
    rw [hd] at o3
    refine CW.seq fun K8 hK8 => ?_
    refine CW.region ?_
    refine LW.pure rfl rfl (RV.move rfl) ?_
    refine LW.pure rfl rfl (RV.move rfl) ?_
    refine LW.pure rfl rfl (RV.len Ts22 rfl) ?_
    refine LW.pure rfl rfl (RV.move rfl) ?_
    refine LW.pure rfl rfl (RV.sliceLH Ts22 rfl rfl rfl ⟨by omega, by omega, by omega⟩) ?_
    have hlen : (l.take i ++ l.drop j ++ l.drop (i + (l.length - j))).length = l.length := by simp; omega
    refine LW.go rfl rfl (OW.clearSub (lo := i + (l.length - j)) (hi := l.length) (0 : Int) Ts22 rfl o3 (fun _ => rfl) rfl rfl (by decide) (by simp only [hn, Int.toNat_natCast]) (by simp only [hn, Int.toNat_natCast]) (by omega) (by rw [hlen]; exact Nat.le_refl _) rfl fun v w4 M4 o4 => ?_)
    refine LW.nil (hK8 _ _ ?_)
    have htk : List.take (i + (l.length - j)) (l.take i ++ l.drop j ++ l.drop (i + (l.length - j))) = l.take i ++ l.drop j := by rw [← hn, List.take_left]
    rw [htk, List.append_assoc, List.map_append] at o4
    have o5 := o4.shrink (by simp)
    refine CW.seq fun K9 hK9 => ?_
    refine CW.region ?_
    refine LW.pure rfl rfl (RV.move rfl) ?_
    refine LW.pure rfl rfl (RV.assign rfl) ?_
    refine LW.nil (hK9 _ _ ?_)
    refine CW.ret ?_
    exact ⟨_, (ResOK.one rfl), rfl, o5, (Mod.of_ext E).trans (M3.trans M4)⟩
set_option maxRecDepth 20000 in
theorem slices_Delete_int_ok {a0 : List Int} {a1 : Int} {a2 : Int} {A_a0 : Option Addr} {c_a0 : Nat} {wb : World} {R : List Ck} {w : World} {res : List Int} (H : Hp wb w ([.own A_a0 c_a0 3 1 (List.map encN a0)] ++ R)) (F : slices_Delete_int a0 a1 a2 = some res) : Calls Try.prog 73 #[.slice A_a0 a0.length c_a0, .int .i64 a1, .int .i64 a2] w (fun e w' => ∃ (A0 : Option Addr) (c0 : Nat), e = .returned (.slice A0 res.length c0) ∧ Hp wb w' ([.own A0 c0 3 1 (List.map encN res)] ++ R)) := by
  unfold slices_Delete_int at F
  obtain ⟨hg, F⟩ := gd_some F
  cases F
  obtain ⟨i, rfl⟩ : ∃ i : Nat, a1 = (i : Int) := ⟨Int.toNat a1, by omega⟩
  obtain ⟨j, rfl⟩ : ∃ j : Nat, a2 = (j : Int) := ⟨Int.toNat a2, by omega⟩
  rw [Int.toNat_natCast, Int.toNat_natCast]
  refine (slices_Delete_int_core (H.own 0 rfl) (i := i) (j := j) (by omega) (by omega)).mono ?_
  rintro _ w' ⟨rfl, o, M⟩
  exact ⟨_, _, rfl, H.mod 0 rfl M o (.inl rfl)⟩
set_option maxRecDepth 20000 in
theorem slices_Delete_int_int_core {l : List ((Option Addr × Nat) × List (List Value))} {A : Option Addr} {c i j : Nat} {w : World} (o : Own w A c 22 1 (l.map encH)) (hij : i ≤ j) (hj : j ≤ l.length) : Calls Try.prog 74 #[.slice A l.length c, .int .i64 (i : Int), .int .i64 (j : Int)] w (fun e w' => e = .returned (.slice A (l.take i ++ l.drop j).length c) ∧ Own w' A c 22 1 ((l.take i ++ l.drop j).map encH) ∧ Mod w w' A) := by
  have hc : l.length ≤ c := o.sl.le
  refine calls_of_cw (args := [.slice A l.length c, .int .i64 (i : Int), .int .i64 (j : Int)]) Try.func74 rfl rfl rfl rfl ?_
  refine CW.seq fun K1 hK1 => ?_
  refine CW.region ?_
  refine LW.pure rfl rfl (RV.assign rfl) ?_
  refine LW.nil (hK1 _ _ ?_)
  refine CW.seq fun K2 hK2 => ?_
  refine CW.region ?_
  refine LW.pure rfl rfl (RV.move rfl) ?_
  refine LW.pure rfl rfl (RV.move rfl) ?_
  refine LW.pure rfl rfl (RV.move rfl) ?_
  refine LW.pure rfl rfl (RV.move rfl) ?_
  refine LW.pure rfl rfl (RV.len Ts23 rfl) ?_
  refine LW.pure rfl rfl (RV.sliceLHM Ts23 rfl rfl rfl rfl ⟨by omega, by omega, by omega, by omega⟩) ?_
  refine LW.nil (hK2 _ _ ?_)
  refine CW.seq fun K3 hK3 => ?_
  refine CW.seq fun K4 hK4 => ?_
  refine CW.region ?_
  refine LW.pure rfl rfl (RV.move rfl) ?_
  refine LW.pure rfl rfl (RV.move rfl) ?_
  refine LW.pure rfl rfl (RV.eqi rfl rfl) ?_
  refine LW.nil (hK4 _ _ ?_)
  by_cases he : (i : Int) = (j : Int)
  · refine CW.condT rfl (dec_t he) ?_
    refine CW.seq fun K5 hK5 => ?_
    refine CW.region ?_
    refine LW.pure rfl rfl (RV.move rfl) ?_
    refine LW.pure rfl rfl (RV.assign rfl) ?_
    refine LW.nil (hK5 _ _ ?_)
    refine CW.ret ?_
    obtain rfl : i = j := by omega
    have e1 : l.take i ++ l.drop i = l := List.take_append_drop i l
    refine ⟨_, (ResOK.one rfl), ?_⟩
    rw [e1]
    exact ⟨rfl, o, Mod.refl _ _⟩
  · refine CW.condF rfl (dec_f he) ?_
    refine CW.skip (hK3 _ _ ?_)
    obtain ⟨b, rfl⟩ := o.at0 (by omega)
    refine CW.seq fun K6 hK6 => ?_
    refine CW.region ?_
    refine LW.pure rfl rfl (RV.move rfl) ?_
    refine LW.pure rfl rfl (RV.len Ts23 rfl) ?_
    refine LW.pure rfl rfl (RV.assign rfl) ?_
    refine LW.nil (hK6 _ _ ?_)
    refine CW.seq fun K7 hK7 => ?_
    have hl1 : (l.drop j).length = l.length - j := by simp
    have hl2 : (l.take i).length = i := by simp; omega
    have hAj : ∃ a, cutA (some (⟨b, 0, none⟩ : Addr)) c 1 j = some a := by unfold cutA; split <;> exact ⟨_, rfl⟩
    refine CW.draw [6] (fun _ => True) (.cons 0 2 (.cons 1 2 (.cons 2 1 (.cons 3 2 (.cons 4 2 (.cons 5 1 (.cons 6 0 (.cons 7 2 .nil)))))))) mixed (by kernel_rfl) fun w2 E => ?_
    have o2 := o.ext E
    refine DW.thru rfl rfl rfl (fun _ EQ => RV.move rfl) ?_
    refine DW.thru rfl rfl rfl (fun _ EQ => RV.move rfl) ?_
    refine DW.fix rfl rfl rfl (fun _ EQ => RV.sliceHi Ts23 rfl rfl ⟨by omega, by omega⟩) ?_
    refine DW.thru rfl rfl rfl (fun _ EQ => RV.move rfl) ?_
    refine DW.thru rfl rfl rfl (fun _ EQ => RV.move rfl) ?_
    refine DW.fix rfl rfl rfl (fun _ EQ => RV.sliceLo Ts23 rfl rfl ⟨Int.natCast_nonneg _, by omega⟩ hc) ?_
    have src := o2.sl.cut j l.length hj (Nat.le_refl _)
    rw [List.take_length] at src
    refine DW.sole rfl rfl rfl (OW.appendOver (l := l.take i) (xs := l.drop j) (zs := l.drop i) Ts23 rfl (by simp; omega) rfl (by rw [hl1]; simp) (by rw [List.take_append_drop]; exact o2) hAj src (fun _ => rfl) (fun _ => rfl) (by decide) (by simp; omega) fun w3 o3 M3 => ?_)
    refine ⟨fun h => absurd h (by decide), M3.modx (fun _ _ => trivial), ?_⟩
    refine DW.thru rfl rfl rfl (fun _ EQ => RV.assign rfl) ?_
    refine DW.nil (hK7 _ _ ?_)
    have hn : (l.take i ++ l.drop j).length = i + (l.length - j) := by rw [List.length_append, hl1, hl2]
    have hd : (List.drop (l.drop j).length (l.drop i)) = l.drop (i + (l.length - j)) := by rw [List.drop_drop, hl1]
    rw [hd] at o3
    refine CW.seq fun K8 hK8 => ?_
    refine CW.region ?_
    refine LW.pure rfl rfl (RV.move rfl) ?_
    refine LW.pure rfl rfl (RV.move rfl) ?_
    refine LW.pure rfl rfl (RV.len Ts23 rfl) ?_
    refine LW.pure rfl rfl (RV.move rfl) ?_
    refine LW.pure rfl rfl (RV.sliceLH Ts23 rfl rfl rfl ⟨by omega, by omega, by omega⟩) ?_
    have hlen : (l.take i ++ l.drop j ++ l.drop (i + (l.length - j))).length = l.length := by simp; omega
    refine LW.go rfl rfl (OW.clearSub (lo := i + (l.length - j)) (hi := l.length) ((none, 0), []) Ts23 rfl o3 (fun _ => rfl) rfl rfl (by decide) (by simp only [hn, Int.toNat_natCast]) (by simp only [hn, Int.toNat_natCast]) (by omega) (by rw [hlen]; exact Nat.le_refl _) rfl fun v w4 M4 o4 => ?_)
    refine LW.nil (hK8 _ _ ?_)
    have htk : List.take (i + (l.length - j)) (l.take i ++ l.drop j ++ l.drop (i + (l.length - j))) = l.take i ++ l.drop j := by rw [← hn, List.take_left]
    rw [htk, List.append_assoc, List.map_append] at o4
    have o5 := o4.shrink (by simp)
    refine CW.seq fun K9 hK9 => ?_
    refine CW.region ?_
    refine LW.pure rfl rfl (RV.move rfl) ?_
    refine LW.pure rfl rfl (RV.assign rfl) ?_
    refine LW.nil (hK9 _ _ ?_)
    refine CW.ret ?_
    exact ⟨_, (ResOK.one rfl), rfl, o5, (Mod.of_ext E).trans (M3.trans M4)⟩
set_option maxRecDepth 20000 in
theorem slices_Delete_int_int_ok {a0 : List (List Int)} {a1 : Int} {a2 : Int} {A_a0 : Option Addr} {c_a0 : Nat} {hs_a0 : List (Option Addr × Nat)} {wb : World} {R : List Ck} {w : World} {res : List (List Int)} (H : Hp wb w ([.tab A_a0 c_a0 22 hs_a0 3 1 (encM encN a0)] ++ R)) (F : slices_Delete_int_int a0 a1 a2 = some res) : Calls Try.prog 74 #[.slice A_a0 a0.length c_a0, .int .i64 a1, .int .i64 a2] w (fun e w' => ∃ (A0 : Option Addr) (c0 : Nat) (hs0 : List (Option Addr × Nat)), e = .returned (.slice A0 res.length c0) ∧ Hp wb w' ([.tab A0 c0 22 hs0 3 1 (encM encN res)] ++ R)) := by
  unfold slices_Delete_int_int at F
  obtain ⟨hg, F⟩ := gd_some F
  cases F
  obtain ⟨i, rfl⟩ : ∃ i : Nat, a1 = (i : Int) := ⟨Int.toNat a1, by omega⟩
  obtain ⟨j, rfl⟩ : ∃ j : Nat, a2 = (j : Int) := ⟨Int.toNat a2, by omega⟩
  rw [Int.toNat_natCast, Int.toNat_natCast]
  have ht := H.tab 0 rfl
  have hl : (hs_a0.zip (encM encN a0)).length = a0.length := by rw [List.length_zip, ht.len]; simp [encM]
  have h := slices_Delete_int_int_core ht.outer (i := i) (j := j) (by omega) (by rw [hl]; omega)
  rw [hl] at h
  refine h.mono ?_
  rintro _ w' ⟨rfl, o, M⟩
  have hl2 : (List.take i (hs_a0.zip (encM encN a0)) ++ List.drop j (hs_a0.zip (encM encN a0))).length = (List.take i a0 ++ List.drop j a0).length := by simp only [List.length_append, List.length_take, List.length_drop, hl]
  rw [hl2]
  exact ⟨_, _, _, rfl, H.tabDel 0 rfl M (by omega) o⟩
set_option maxRecDepth 20000 in
set_option maxHeartbeats 1000000 in
theorem bulk_Merge_ok {a0 : Trade} {a1 : Int} {a2 : Int} {A_a0_supply : Option Addr} {c_a0_supply : Nat} {A_a0_demand : Option Addr} {c_a0_demand : Nat} {A_a0_cost : Option Addr} {c_a0_cost : Nat} {w : World} {res : Trade × Int} (h_a0_supply : Sl w A_a0_supply c_a0_supply 1 (a0.supply.map encN)) (h_a0_demand : Sl w A_a0_demand c_a0_demand 1 (a0.demand.map encN)) (h_a0_cost : Sl2 w A_a0_cost c_a0_cost 1 encN a0.cost) (F : bulk_Merge a0 a1 a2 = some res) : Calls Try.prog 35 #[.agg #[.slice A_a0_supply a0.supply.length c_a0_supply, .slice A_a0_demand a0.demand.length c_a0_demand, .slice A_a0_cost a0.cost.length c_a0_cost], .int .i64 a1, .int .i64 a2] w (fun e w' => ∃ (A0_supply : Option Addr) (c0_supply : Nat) (A0_demand : Option Addr) (c0_demand : Nat) (A0_cost : Option Addr) (c0_cost : Nat) (hs0_cost : List (Option Addr × Nat)), e = .returned (.tuple #[.agg #[.slice A0_supply res.1.supply.length c0_supply, .slice A0_demand res.1.demand.length c0_demand, .slice A0_cost res.1.cost.length c0_cost], .int .i64 res.2]) ∧ Hp w w' [.own A0_supply c0_supply 3 1 (List.map encN res.1.supply), .own A0_demand c0_demand 3 1 (List.map encN res.1.demand), .tab A0_cost c0_cost 22 hs0_cost 3 1 (encM encN res.1.cost)]) := by
  refine calls_of_cw (args := [.agg #[.slice A_a0_supply a0.supply.length c_a0_supply, .slice A_a0_demand a0.demand.length c_a0_demand, .slice A_a0_cost a0.cost.length c_a0_cost], .int .i64 a1, .int .i64 a2]) Try.func35 rfl rfl rfl rfl ?_
  have H := Hp.start w
  have R0 := H.ext
  unfold bulk_Merge at F
  refine CW.seq fun K1 hK1 => ?_
  refine CW.region ?_
  refine LW.go rfl rfl (OW.box rfl fun b1 w1 N1 => ?_)
  replace H := H.new N1 N1.blk
  replace R0 := H.ext
  refine LW.go rfl rfl (OW.alloc Tz25 fun b2 w2 N2 => ?_)
  replace H := H.new N2 N2.blk
  replace R0 := H.ext
  refine LW.pure rfl rfl (RV.assign rfl) ?_
  refine LW.nil (hK1 _ _ ?_)
  refine CW.seq fun K2 hK2 => ?_
  refine CW.seq fun K3 hK3 => ?_
  obtain ⟨r4, hr4, F⟩ := bnd_some F
  refine CW.region ?_
  refine LW.pure rfl rfl (RV.loadA [.slice A_a0_supply a0.supply.length c_a0_supply, .slice A_a0_demand a0.demand.length c_a0_demand, .slice A_a0_cost a0.cost.length c_a0_cost] Tk25 rfl (H.blk 1 rfl).cells rfl rfl) ?_
  refine LW.go rfl rfl (OW.call Tc38 rfl (bulk_Validate_ok (a0 := a0) (h_a0_supply.ext R0) (h_a0_demand.ext R0) (h_a0_cost.ext R0) hr4) ?_)
  rintro _ w3 ⟨rfl, E1⟩
  refine ⟨_, rfl, ?_⟩
  replace H := H.grow E1
  replace R0 := H.ext
  refine LW.pure rfl rfl (RV.assign rfl) ?_
  refine LW.nil (hK3 _ _ ?_)
  refine CW.seq fun K4 hK4 => ?_
  refine CW.region ?_
  refine LW.pure rfl rfl (RV.move rfl) ?_
  refine LW.pure rfl rfl (RV.nei rfl rfl) ?_
  refine LW.nil (hK4 _ _ ?_)
  by_cases hp1 : r4 = 0
  ·
    replace F := ite_y hp1 F
    have hq1 := dec_t hp1
    refine CW.condF rfl (not_f hq1) ?_
    refine CW.skip (hK2 _ _ ?_)
    refine CW.seq fun K5 hK5 => ?_
    refine CW.seqJ (fun ρ wl1 => (∃ (t32_1 : Bool), bulk_Merge_k2 a0 a1 a2 t32_1 = some res ∧ ρ = [(1, .int .i64 a1), (2, .int .i64 a2), (3, .pointer (some (⟨b1, 0, none⟩))), (6, .pointer (some (⟨b2, 0, none⟩))), (7, .int .i64 0), (32, .bool t32_1)] ∧ Hp w wl1 [.blk b1 25 [.slice A_a0_supply a0.supply.length c_a0_supply, .slice A_a0_demand a0.demand.length c_a0_demand, .slice A_a0_cost a0.cost.length c_a0_cost], .blk b2 25 [.slice none 0 0, .slice none 0 0, .slice none 0 0]])) ?_ ?_
    ·
      rintro _ wl1 ⟨t32_1, F, rfl, H⟩
      have R0 := H.ext
      unfold bulk_Merge_k2 at F
      by_cases hp2 : t32_1 = true
      ·
        replace F := ite_y hp2 F
        have hq2 : t32_1 = true := hp2
        refine CW.condT rfl hq2 ?_
        refine CW.seq fun K6 hK6 => ?_
        refine CW.region ?_
        refine LW.pure rfl rfl (RV.build (vs := []) (cs := [.slice none 0 0, .slice none 0 0, .slice none 0 0]) rfl (fun _ => by kernel_rfl)) ?_
        refine LW.go rfl rfl (OW.store Tk25 rfl rfl (H.blk 1 rfl) (off := 0) (vs := [.slice none 0 0, .slice none 0 0, .slice none 0 0]) rfl rfl rfl rfl rfl fun w4 S1 => ?_)
        replace H : Hp w w4 [.blk b1 25 [.slice A_a0_supply a0.supply.length c_a0_supply, .slice A_a0_demand a0.demand.length c_a0_demand, .slice A_a0_cost a0.cost.length c_a0_cost], .blk b2 25 [.slice none 0 0, .slice none 0 0, .slice none 0 0]] := H.stored 1 rfl S1
        replace R0 := H.ext
        refine LW.pure rfl rfl (RV.assign rfl) ?_
        refine LW.nil (hK6 _ _ ?_)
        refine CW.ret ?_
        obtain rfl := Option.some.inj F
        refine ⟨_, (ResOK.two ⟨_, rfl, run_loadVar_agg Tk25 (H.blk 1 rfl).cells (us := [.slice none 0 0, .slice none 0 0, .slice none 0 0]) rfl rfl⟩ rfl), ?_⟩
        replace H := H.nilOwn 3 1
        replace R0 := H.ext
        replace H := H.nilOwn 3 1
        replace R0 := H.ext
        replace H := H.nilTab encN 22 3 1
        replace R0 := H.ext
        replace H := H.pick (L' := [.own none 0 3 1 (List.map encN (([] : List Int))), .own none 0 3 1 (List.map encN (([] : List Int))), .tab none 0 22 ([]) 3 1 (encM encN (([] : List (List Int))))]) [2, 1, 0] (by decide) rfl
        replace R0 := H.ext
        exact ⟨none, 0, none, 0, none, 0, ([]), (by first | rfl | (simp; done) | (simp; omega)), H⟩
      ·
        replace F := ite_n hp2 F
        have hq2 : t32_1 = false := raw_f hp2
        refine CW.condF rfl hq2 ?_
        refine CW.skip (hK5 _ _ ?_)
        refine CW.seq fun K7 hK7 => ?_
        refine CW.seq fun K8 hK8 => ?_
        refine CW.region ?_
        refine LW.pure rfl rfl (RV.move rfl) ?_
        refine LW.pure rfl rfl (RV.move rfl) ?_
        refine LW.pure rfl rfl (RV.eqi rfl rfl) ?_
        refine LW.nil (hK8 _ _ ?_)
        by_cases hp3 : a1 = a2
        ·
          replace F := ite_y hp3 F
          have hq3 := dec_t hp3
          refine CW.condT rfl hq3 ?_
          refine CW.seq fun K9 hK9 => ?_
          refine CW.region ?_
          refine LW.pure rfl rfl (RV.build (vs := []) (cs := [.slice none 0 0, .slice none 0 0, .slice none 0 0]) rfl (fun _ => by kernel_rfl)) ?_
          refine LW.go rfl rfl (OW.store Tk25 rfl rfl (H.blk 1 rfl) (off := 0) (vs := [.slice none 0 0, .slice none 0 0, .slice none 0 0]) rfl rfl rfl rfl rfl fun w5 S2 => ?_)
          replace H : Hp w w5 [.blk b1 25 [.slice A_a0_supply a0.supply.length c_a0_supply, .slice A_a0_demand a0.demand.length c_a0_demand, .slice A_a0_cost a0.cost.length c_a0_cost], .blk b2 25 [.slice none 0 0, .slice none 0 0, .slice none 0 0]] := H.stored 1 rfl S2
          replace R0 := H.ext
          refine LW.pure rfl rfl (RV.assign rfl) ?_
          refine LW.nil (hK9 _ _ ?_)
          refine CW.ret ?_
          obtain rfl := Option.some.inj F
          refine ⟨_, (ResOK.two ⟨_, rfl, run_loadVar_agg Tk25 (H.blk 1 rfl).cells (us := [.slice none 0 0, .slice none 0 0, .slice none 0 0]) rfl rfl⟩ rfl), ?_⟩
          replace H := H.nilOwn 3 1
          replace R0 := H.ext
          replace H := H.nilOwn 3 1
          replace R0 := H.ext
          replace H := H.nilTab encN 22 3 1
          replace R0 := H.ext
          replace H := H.pick (L' := [.own none 0 3 1 (List.map encN (([] : List Int))), .own none 0 3 1 (List.map encN (([] : List Int))), .tab none 0 22 ([]) 3 1 (encM encN (([] : List (List Int))))]) [2, 1, 0] (by decide) rfl
          replace R0 := H.ext
          exact ⟨none, 0, none, 0, none, 0, ([]), (by first | rfl | (simp; done) | (simp; omega)), H⟩
        ·
          replace F := ite_n hp3 F
          have hq3 := dec_f hp3
          refine CW.condF rfl hq3 ?_
          refine CW.skip (hK7 _ _ ?_)
          refine CW.seq fun K10 hK10 => ?_
          obtain ⟨r1, hr1, F⟩ := bnd_some F
          refine CW.region ?_
          refine LW.pure rfl rfl (RV.loadA [.slice A_a0_supply a0.supply.length c_a0_supply, .slice A_a0_demand a0.demand.length c_a0_demand, .slice A_a0_cost a0.cost.length c_a0_cost] Tk25 rfl (H.blk 0 rfl).cells rfl rfl) ?_
          refine LW.go rfl rfl (OW.call Tc65 rfl (bulk_copied_ok (a0 := a0) (h_a0_supply.ext R0) (h_a0_demand.ext R0) (h_a0_cost.ext R0) hr1) ?_)
          rintro _ w6 ⟨A14_0_supply, c14_0_supply, A14_0_demand, c14_0_demand, A14_0_cost, c14_0_cost, hs14_0_cost, rfl, E2⟩
          refine ⟨_, rfl, ?_⟩
          replace H : Hp w w6 [.own A14_0_supply c14_0_supply 3 1 (List.map encN r1.supply), .own A14_0_demand c14_0_demand 3 1 (List.map encN r1.demand), .tab A14_0_cost c14_0_cost 22 hs14_0_cost 3 1 (encM encN r1.cost), .blk b1 25 [.slice A_a0_supply a0.supply.length c_a0_supply, .slice A_a0_demand a0.demand.length c_a0_demand, .slice A_a0_cost a0.cost.length c_a0_cost], .blk b2 25 [.slice none 0 0, .slice none 0 0, .slice none 0 0]] := H.append E2
          replace R0 := H.ext
          refine LW.go rfl rfl (OW.alloc Tz25 fun b3 w7 N3 => ?_)
          replace H := H.new N3 N3.blk
          replace R0 := H.ext
          refine LW.go rfl rfl (OW.store Tk25 rfl rfl (H.blk 0 rfl) (off := 0) (vs := [.slice A14_0_supply r1.supply.length c14_0_supply, .slice A14_0_demand r1.demand.length c14_0_demand, .slice A14_0_cost r1.cost.length c14_0_cost]) rfl rfl rfl rfl rfl fun w8 S3 => ?_)
          replace H : Hp w w8 [.blk b3 25 [.slice A14_0_supply r1.supply.length c14_0_supply, .slice A14_0_demand r1.demand.length c14_0_demand, .slice A14_0_cost r1.cost.length c14_0_cost], .own A14_0_supply c14_0_supply 3 1 (List.map encN r1.supply), .own A14_0_demand c14_0_demand 3 1 (List.map encN r1.demand), .tab A14_0_cost c14_0_cost 22 hs14_0_cost 3 1 (encM encN r1.cost), .blk b1 25 [.slice A_a0_supply a0.supply.length c_a0_supply, .slice A_a0_demand a0.demand.length c_a0_demand, .slice A_a0_cost a0.cost.length c_a0_cost], .blk b2 25 [.slice none 0 0, .slice none 0 0, .slice none 0 0]] := H.stored 0 rfl S3
          replace R0 := H.ext
          refine LW.nil (hK10 _ _ ?_)
          refine CW.seq fun K11 hK11 => ?_
          obtain ⟨x1, hbx1, hx1, F⟩ := ix_some F
          obtain ⟨x2, hbx2, hx2, F⟩ := ix_some F
          obtain ⟨hg1, F⟩ := gd_some F
          obtain ⟨x10, hbx10, hx10, F⟩ := ix_some F
          refine CW.draw [12] (fun _ => True) (.cons 0 1 (.cons 1 1 (.cons 2 1 (.cons 3 1 (.cons 4 1 (.cons 5 1 (.cons 6 1 (.cons 7 1 (.cons 8 1 (.cons 9 1 (.cons 10 1 (.cons 11 1 (.cons 12 0 .nil))))))))))))) mixed (by kernel_rfl) fun w9 E3 => ?_
          replace H := H.grow E3
          replace R0 := H.ext
          refine DW.fix rfl rfl rfl (fun _ EQ => RV.fieldAddr Tf25_0 rfl) ?_
          refine DW.fix rfl rfl rfl (fun _ EQ => RV.load1 Tk22 rfl (((H.grow EQ).blk 0 rfl).cells.off 0) rfl) ?_
          refine DW.fix rfl rfl rfl (fun _ EQ => RV.move rfl) ?_
          refine DW.fix rfl rfl rfl (fun _ EQ => RV.indexAddr Ts22 rfl rfl hbx1 ((H.own 1 rfl).sl.addr_ hx1)) ?_
          refine DW.fix rfl rfl rfl (fun _ EQ => RV.load1 Tk3 rfl (((H.grow EQ).own 1 rfl).sl.at_ hx1) rfl) ?_
          refine DW.fix rfl rfl rfl (fun _ EQ => RV.fieldAddr Tf25_0 rfl) ?_
          refine DW.fix rfl rfl rfl (fun _ EQ => RV.load1 Tk22 rfl (((H.grow EQ).blk 0 rfl).cells.off 0) rfl) ?_
          refine DW.fix rfl rfl rfl (fun _ EQ => RV.move rfl) ?_
          refine DW.fix rfl rfl rfl (fun _ EQ => RV.indexAddr Ts22 rfl rfl hbx2 ((H.own 1 rfl).sl.addr_ hx2)) ?_
          refine DW.fix rfl rfl rfl (fun _ EQ => RV.load1 Tk3 rfl (((H.grow EQ).own 1 rfl).sl.at_ hx2) rfl) ?_
          refine DW.fix rfl rfl rfl (fun _ EQ => RV.add rfl rfl hg1) ?_
          refine DW.fix rfl rfl rfl (fun _ EQ => RV.indexAddr Ts22 rfl rfl hbx10 ((H.own 1 rfl).sl.addr_ hx10)) ?_
          refine DW.sole rfl rfl rfl (OW.storeO (enc := encN) (vs := [.int .i64 (x1 + x2)]) 0 (x1 + x2) Tk3 rfl rfl (H.own 1 rfl) (fun _ => rfl) rfl hx10 rfl rfl (by decide) rfl rfl fun w10 M1 O1 => ?_)
          refine ⟨fun h => absurd h (by decide), M1.modx (fun _ _ => trivial), ?_⟩
          replace H : Hp w w10 [.blk b3 25 [.slice A14_0_supply r1.supply.length c14_0_supply, .slice A14_0_demand r1.demand.length c14_0_demand, .slice A14_0_cost r1.cost.length c14_0_cost], .own A14_0_supply c14_0_supply 3 1 (List.map encN ((r1.supply.set (Int.toNat a1) (x1 + x2)))), .own A14_0_demand c14_0_demand 3 1 (List.map encN r1.demand), .tab A14_0_cost c14_0_cost 22 hs14_0_cost 3 1 (encM encN r1.cost), .blk b1 25 [.slice A_a0_supply a0.supply.length c_a0_supply, .slice A_a0_demand a0.demand.length c_a0_demand, .slice A_a0_cost a0.cost.length c_a0_cost], .blk b2 25 [.slice none 0 0, .slice none 0 0, .slice none 0 0]] := H.mod 1 rfl M1 O1 (.inl rfl)
          replace R0 := H.ext
          refine DW.nil (hK11 _ _ ?_)
          refine CW.seq fun K12 hK12 => ?_
          refine CW.seq fun K13 hK13 => ?_
          obtain ⟨x11, hbx11, hx11, F⟩ := ix_some F
          refine CW.region ?_
          refine LW.pure rfl rfl (RV.fieldAddr Tf25_0 rfl) ?_
          refine LW.pure rfl rfl (RV.load1 Tk22 rfl ((H.blk 0 rfl).cells.off 0) rfl) ?_
          refine LW.pure rfl rfl (RV.move rfl) ?_
          refine LW.pure rfl rfl (RV.indexAddr Ts22 rfl rfl (by first | exact hbx11 | (simp at hbx11 ⊢; omega)) ((H.own 1 rfl).sl.addr_ hx11)) ?_
          refine LW.pure rfl rfl (RV.load1 Tk3 rfl ((H.own 1 rfl).sl.at_ hx11) rfl) ?_
          refine LW.pure rfl rfl (RV.gtr rfl rfl) ?_
          refine LW.nil (hK13 _ _ ?_)
          by_cases hp4 : (30 : Int) < x11
          ·
            replace F := ite_y hp4 F
            have hq4 := dec_t hp4
            refine CW.condT rfl hq4 ?_
            refine CW.seq fun K14 hK14 => ?_
            refine CW.region ?_
            refine LW.pure rfl rfl (RV.build (vs := []) (cs := [.slice none 0 0, .slice none 0 0, .slice none 0 0]) rfl (fun _ => by kernel_rfl)) ?_
            refine LW.go rfl rfl (OW.store Tk25 rfl rfl (H.blk 5 rfl) (off := 0) (vs := [.slice none 0 0, .slice none 0 0, .slice none 0 0]) rfl rfl rfl rfl rfl fun w11 S4 => ?_)
            replace H : Hp w w11 [.blk b3 25 [.slice A14_0_supply r1.supply.length c14_0_supply, .slice A14_0_demand r1.demand.length c14_0_demand, .slice A14_0_cost r1.cost.length c14_0_cost], .own A14_0_supply c14_0_supply 3 1 (List.map encN ((r1.supply.set (Int.toNat a1) (x1 + x2)))), .own A14_0_demand c14_0_demand 3 1 (List.map encN r1.demand), .tab A14_0_cost c14_0_cost 22 hs14_0_cost 3 1 (encM encN r1.cost), .blk b1 25 [.slice A_a0_supply a0.supply.length c_a0_supply, .slice A_a0_demand a0.demand.length c_a0_demand, .slice A_a0_cost a0.cost.length c_a0_cost], .blk b2 25 [.slice none 0 0, .slice none 0 0, .slice none 0 0]] := H.stored 5 rfl S4
            replace R0 := H.ext
            refine LW.pure rfl rfl (RV.assign rfl) ?_
            refine LW.nil (hK14 _ _ ?_)
            refine CW.ret ?_
            obtain rfl := Option.some.inj F
            refine ⟨_, (ResOK.two ⟨_, rfl, run_loadVar_agg Tk25 (H.blk 5 rfl).cells (us := [.slice none 0 0, .slice none 0 0, .slice none 0 0]) rfl rfl⟩ rfl), ?_⟩
            replace H := H.nilOwn 3 1
            replace R0 := H.ext
            replace H := H.nilOwn 3 1
            replace R0 := H.ext
            replace H := H.nilTab encN 22 3 1
            replace R0 := H.ext
            replace H := H.pick (L' := [.own none 0 3 1 (List.map encN (([] : List Int))), .own none 0 3 1 (List.map encN (([] : List Int))), .tab none 0 22 ([]) 3 1 (encM encN (([] : List (List Int))))]) [2, 1, 0] (by decide) rfl
            replace R0 := H.ext
            exact ⟨none, 0, none, 0, none, 0, ([]), (by first | rfl | (simp; done) | (simp; omega)), H⟩
          ·
            replace F := ite_n hp4 F
            have hq4 := dec_f hp4
            refine CW.condF rfl hq4 ?_
            refine CW.skip (hK12 _ _ ?_)
            refine CW.seqJ (fun ρ wl2 => (∃ (m1 : List (List Int)), bulk_Merge_k1 a1 a2 r1 x1 x2 m1 = some res ∧ ρ = [(2, .int .i64 a2), (6, .pointer (some (⟨b2, 0, none⟩))), (7, .int .i64 0), (9, .pointer (some (⟨b3, 0, none⟩)))] ∧ Hp w wl2 [.own A14_0_supply c14_0_supply 3 1 (List.map encN ((r1.supply.set (Int.toNat a1) (x1 + x2)))), .own A14_0_demand c14_0_demand 3 1 (List.map encN r1.demand), .tab A14_0_cost c14_0_cost 22 hs14_0_cost 3 1 (encM encN m1), .blk b2 25 [.slice none 0 0, .slice none 0 0, .slice none 0 0], .blk b3 25 [.slice A14_0_supply r1.supply.length c14_0_supply, .slice A14_0_demand r1.demand.length c14_0_demand, .slice A14_0_cost m1.length c14_0_cost]])) ?_ ?_
            ·
              rintro _ wl2 ⟨m1, F, rfl, H⟩
              have R0 := H.ext
              unfold bulk_Merge_k1 at F
              refine CW.seq fun K15 hK15 => ?_
              obtain ⟨hg2, F⟩ := gd_some F
              obtain ⟨r2, hr2, F⟩ := bnd_some F
              refine CW.region ?_
              refine LW.pure rfl rfl (RV.fieldAddr Tf25_0 rfl) ?_
              refine LW.pure rfl rfl (RV.load1 Tk22 rfl ((H.blk 4 rfl).cells.off 0) rfl) ?_
              refine LW.pure rfl rfl (RV.move rfl) ?_
              refine LW.pure rfl rfl (RV.move rfl) ?_
              refine LW.pure rfl rfl (RV.add rfl rfl hg2) ?_
              replace H := H.pick (L' := [.own A14_0_supply c14_0_supply 3 1 (List.map encN ((r1.supply.set (Int.toNat a1) (x1 + x2)))), .own A14_0_demand c14_0_demand 3 1 (List.map encN r1.demand), .tab A14_0_cost c14_0_cost 22 hs14_0_cost 3 1 (encM encN m1), .blk b2 25 [.slice none 0 0, .slice none 0 0, .slice none 0 0], .blk b3 25 [.slice A14_0_supply r1.supply.length c14_0_supply, .slice A14_0_demand r1.demand.length c14_0_demand, .slice A14_0_cost m1.length c14_0_cost]]) [0, 1, 2, 3, 4] (by decide) rfl
              replace R0 := H.ext
              refine LW.go rfl rfl (OW.call Tc73 (evs_cast rfl (by first | rfl | (simp; done) | (simp; omega))) (slices_Delete_int_ok (a0 := (r1.supply.set (Int.toNat a1) (x1 + x2))) (a1 := a2) (a2 := a2 + 1) (R := [.own A14_0_demand c14_0_demand 3 1 (List.map encN r1.demand), .tab A14_0_cost c14_0_cost 22 hs14_0_cost 3 1 (encM encN m1), .blk b2 25 [.slice none 0 0, .slice none 0 0, .slice none 0 0], .blk b3 25 [.slice A14_0_supply r1.supply.length c14_0_supply, .slice A14_0_demand r1.demand.length c14_0_demand, .slice A14_0_cost m1.length c14_0_cost]]) H hr2) ?_)
              rintro _ w12 ⟨A16_0, c16_0, rfl, Hq1⟩
              refine ⟨_, rfl, ?_⟩
              replace H : Hp w w12 [.own A16_0 c16_0 3 1 (List.map encN r2), .own A14_0_demand c14_0_demand 3 1 (List.map encN r1.demand), .tab A14_0_cost c14_0_cost 22 hs14_0_cost 3 1 (encM encN m1), .blk b2 25 [.slice none 0 0, .slice none 0 0, .slice none 0 0], .blk b3 25 [.slice A14_0_supply r1.supply.length c14_0_supply, .slice A14_0_demand r1.demand.length c14_0_demand, .slice A14_0_cost m1.length c14_0_cost]] := Hq1
              replace R0 := H.ext
              refine LW.pure rfl rfl (RV.fieldAddr Tf25_0 rfl) ?_
              refine LW.go rfl rfl (OW.store Tk22 rfl rfl (H.blk 4 rfl) (off := 0) (vs := [.slice A16_0 r2.length c16_0]) rfl rfl rfl rfl rfl fun w13 S5 => ?_)
              replace H : Hp w w13 [.own A16_0 c16_0 3 1 (List.map encN r2), .own A14_0_demand c14_0_demand 3 1 (List.map encN r1.demand), .tab A14_0_cost c14_0_cost 22 hs14_0_cost 3 1 (encM encN m1), .blk b2 25 [.slice none 0 0, .slice none 0 0, .slice none 0 0], .blk b3 25 [.slice A16_0 r2.length c16_0, .slice A14_0_demand r1.demand.length c14_0_demand, .slice A14_0_cost m1.length c14_0_cost]] := H.stored 4 rfl S5
              replace R0 := H.ext
              refine LW.nil (hK15 _ _ ?_)
              refine CW.seq fun K16 hK16 => ?_
              obtain ⟨hg3, F⟩ := gd_some F
              obtain ⟨r3, hr3, F⟩ := bnd_some F
              refine CW.region ?_
              refine LW.pure rfl rfl (RV.fieldAddr Tf25_2 rfl) ?_
              refine LW.pure rfl rfl (RV.load1 Tk23 rfl ((H.blk 4 rfl).cells.off 2) rfl) ?_
              refine LW.pure rfl rfl (RV.move rfl) ?_
              refine LW.pure rfl rfl (RV.move rfl) ?_
              refine LW.pure rfl rfl (RV.add rfl rfl hg3) ?_
              replace H := H.pick (L' := [.tab A14_0_cost c14_0_cost 22 hs14_0_cost 3 1 (encM encN m1), .own A16_0 c16_0 3 1 (List.map encN r2), .own A14_0_demand c14_0_demand 3 1 (List.map encN r1.demand), .blk b2 25 [.slice none 0 0, .slice none 0 0, .slice none 0 0], .blk b3 25 [.slice A16_0 r2.length c16_0, .slice A14_0_demand r1.demand.length c14_0_demand, .slice A14_0_cost m1.length c14_0_cost]]) [2, 0, 1, 3, 4] (by decide) rfl
              replace R0 := H.ext
              refine LW.go rfl rfl (OW.call Tc74 rfl (slices_Delete_int_int_ok (a0 := m1) (a1 := a2) (a2 := a2 + 1) (R := [.own A16_0 c16_0 3 1 (List.map encN r2), .own A14_0_demand c14_0_demand 3 1 (List.map encN r1.demand), .blk b2 25 [.slice none 0 0, .slice none 0 0, .slice none 0 0], .blk b3 25 [.slice A16_0 r2.length c16_0, .slice A14_0_demand r1.demand.length c14_0_demand, .slice A14_0_cost m1.length c14_0_cost]]) H hr3) ?_)
              rintro _ w14 ⟨A18_0, c18_0, hs18_0, rfl, Hq2⟩
              refine ⟨_, rfl, ?_⟩
              replace H : Hp w w14 [.tab A18_0 c18_0 22 hs18_0 3 1 (encM encN r3), .own A16_0 c16_0 3 1 (List.map encN r2), .own A14_0_demand c14_0_demand 3 1 (List.map encN r1.demand), .blk b2 25 [.slice none 0 0, .slice none 0 0, .slice none 0 0], .blk b3 25 [.slice A16_0 r2.length c16_0, .slice A14_0_demand r1.demand.length c14_0_demand, .slice A14_0_cost m1.length c14_0_cost]] := Hq2
              replace R0 := H.ext
              refine LW.pure rfl rfl (RV.fieldAddr Tf25_2 rfl) ?_
              refine LW.go rfl rfl (OW.store Tk23 rfl rfl (H.blk 4 rfl) (off := 2) (vs := [.slice A18_0 r3.length c18_0]) rfl rfl rfl rfl rfl fun w15 S6 => ?_)
              replace H : Hp w w15 [.tab A18_0 c18_0 22 hs18_0 3 1 (encM encN r3), .own A16_0 c16_0 3 1 (List.map encN r2), .own A14_0_demand c14_0_demand 3 1 (List.map encN r1.demand), .blk b2 25 [.slice none 0 0, .slice none 0 0, .slice none 0 0], .blk b3 25 [.slice A16_0 r2.length c16_0, .slice A14_0_demand r1.demand.length c14_0_demand, .slice A18_0 r3.length c18_0]] := H.stored 4 rfl S6
              replace R0 := H.ext
              refine LW.nil (hK16 _ _ ?_)
              refine CW.seq fun K17 hK17 => ?_
              refine CW.region ?_
              refine LW.pure rfl rfl (RV.loadA [.slice A16_0 r2.length c16_0, .slice A14_0_demand r1.demand.length c14_0_demand, .slice A18_0 r3.length c18_0] Tk25 rfl (H.blk 4 rfl).cells rfl rfl) ?_
              refine LW.go rfl rfl (OW.store Tk25 rfl rfl (H.blk 3 rfl) (off := 0) (vs := [.slice A16_0 r2.length c16_0, .slice A14_0_demand r1.demand.length c14_0_demand, .slice A18_0 r3.length c18_0]) rfl rfl rfl rfl rfl fun w16 S7 => ?_)
              replace H : Hp w w16 [.tab A18_0 c18_0 22 hs18_0 3 1 (encM encN r3), .own A16_0 c16_0 3 1 (List.map encN r2), .own A14_0_demand c14_0_demand 3 1 (List.map encN r1.demand), .blk b2 25 [.slice A16_0 r2.length c16_0, .slice A14_0_demand r1.demand.length c14_0_demand, .slice A18_0 r3.length c18_0], .blk b3 25 [.slice A16_0 r2.length c16_0, .slice A14_0_demand r1.demand.length c14_0_demand, .slice A18_0 r3.length c18_0]] := H.stored 3 rfl S7
              replace R0 := H.ext
              refine LW.pure rfl rfl (RV.assign rfl) ?_
              refine LW.nil (hK17 _ _ ?_)
              refine CW.ret ?_
              obtain rfl := Option.some.inj F
              refine ⟨_, (ResOK.two ⟨_, rfl, run_loadVar_agg Tk25 (H.blk 3 rfl).cells (us := [.slice A16_0 r2.length c16_0, .slice A14_0_demand r1.demand.length c14_0_demand, .slice A18_0 r3.length c18_0]) rfl rfl⟩ rfl), ?_⟩
              replace H := H.pick (L' := [.own A16_0 c16_0 3 1 (List.map encN r2), .own A14_0_demand c14_0_demand 3 1 (List.map encN r1.demand), .tab A18_0 c18_0 22 hs18_0 3 1 (encM encN r3)]) [1, 2, 0] (by decide) rfl
              replace R0 := H.ext
              exact ⟨A16_0, c16_0, A14_0_demand, c14_0_demand, A18_0, c18_0, hs18_0, (by first | rfl | (simp; done) | (simp; omega)), H⟩
            ·
              intro K18 hK18 jK77
              refine CW.seq fun K19 hK19 => ?_
              obtain ⟨x3, hbx3, hx3, F⟩ := ix_some F
              refine CW.region ?_
              refine LW.pure rfl rfl (RV.fieldAddr Tf25_2 rfl) ?_
              refine LW.pure rfl rfl (RV.load1 Tk23 rfl ((H.blk 0 rfl).cells.off 2) rfl) ?_
              refine LW.pure rfl rfl (RV.move rfl) ?_
              obtain ⟨B1, e1, hh1⟩ := (H.tab 3 rfl).hd hx3
              refine LW.pure rfl rfl (RV.indexAddr Ts23 rfl rfl hbx3 ((H.tab 3 rfl).addr_ hx3)) ?_
              refine LW.pure rfl rfl (RV.load1 Tk22 rfl ((H.tab 3 rfl).cell hx3 hh1) rfl) ?_
              refine LW.pure rfl rfl (RV.len Ts22 rfl) ?_
              refine LW.pure rfl rfl (RV.move rfl) ?_
              refine LW.nil (hK19 _ _ ?_)
              refine CW.block ?_
              replace H := H.pick (L' := [.own A14_0_supply c14_0_supply 3 1 (List.map encN ((r1.supply.set (Int.toNat a1) (x1 + x2)))), .own A14_0_demand c14_0_demand 3 1 (List.map encN r1.demand), .tab A14_0_cost c14_0_cost 22 hs14_0_cost 3 1 (encM encN r1.cost), .blk b2 25 [.slice none 0 0, .slice none 0 0, .slice none 0 0], .blk b3 25 [.slice A14_0_supply r1.supply.length c14_0_supply, .slice A14_0_demand r1.demand.length c14_0_demand, .slice A14_0_cost r1.cost.length c14_0_cost]]) [1, 2, 3, 5, 0] (by decide) rfl
              replace R0 := H.ext
              refine CW.loop (fun meas ρ wl3 => ∃ (t65_1 : Int) (m2 : List (List Int)), bulk_Merge_L1 a1 a2 r1 x1 x2 x3 meas t65_1 m2 = some res ∧ ρ = [(1, .int .i64 a1), (2, .int .i64 a2), (6, .pointer (some (⟨b2, 0, none⟩))), (7, .int .i64 0), (9, .pointer (some (⟨b3, 0, none⟩))), (64, .int .i64 ((x3.length : Int))), (65, .int .i64 t65_1)] ∧ Hp w wl3 [.own A14_0_supply c14_0_supply 3 1 (List.map encN ((r1.supply.set (Int.toNat a1) (x1 + x2)))), .own A14_0_demand c14_0_demand 3 1 (List.map encN r1.demand), .tab A14_0_cost c14_0_cost 22 hs14_0_cost 3 1 (encM encN m2), .blk b2 25 [.slice none 0 0, .slice none 0 0, .slice none 0 0], .blk b3 25 [.slice A14_0_supply r1.supply.length c14_0_supply, .slice A14_0_demand r1.demand.length c14_0_demand, .slice A14_0_cost m2.length c14_0_cost]]) FU ⟨_, ?_, ((0 : Int)), r1.cost, F, rfl, H⟩ ?_
              · exact ⟨rfl, rfl, rfl, rfl, rfl, rfl, rfl, trivial⟩
              rintro mk1 _ wl3 ⟨t65_1, m2, F, rfl, H⟩
              have R0 := H.ext
              replace F := bulk_Merge_L1_s F
              obtain ⟨mk1, rfl, F⟩ := F
              generalize hrec1 : bulk_Merge_L1 a1 a2 r1 x1 x2 x3 mk1 = rec1 at F
              unfold bulk_Merge_B1 at F
              refine CW.seq fun K20 hK20 => ?_
              refine CW.region ?_
              refine LW.pure rfl rfl (RV.lss rfl rfl) ?_
              refine LW.nil (hK20 _ _ ?_)
              refine CW.seq fun K21 hK21 => ?_
              by_cases hp5 : t65_1 < ((x3.length : Int))
              ·
                replace F := ite_y hp5 F
                have hq5 := dec_t hp5
                refine CW.condT rfl hq5 ?_
                refine CW.skip (hK21 _ _ ?_)
                refine CW.seq fun K22 hK22 => ?_
                refine CW.block ?_
                refine CW.seq fun K23 hK23 => ?_
                refine CW.region ?_
                refine LW.pure rfl rfl (RV.move rfl) ?_
                refine LW.pure rfl rfl (RV.assign rfl) ?_
                refine LW.nil (hK23 _ _ ?_)
                obtain ⟨x4, hbx4, hx4, F⟩ := ix_some F
                obtain ⟨x5, hbx5, hx5, F⟩ := ix_some F
                obtain ⟨x6, hbx6, hx6, F⟩ := ix_some F
                obtain ⟨x7, hbx7, hx7, F⟩ := ix_some F
                obtain ⟨x8, hbx8, hx8, F⟩ := ix_some F
                obtain ⟨x9, hbx9, hx9, F⟩ := ix_some F
                refine CW.draw [24] (fun _ => True) (.cons 0 1 (.cons 1 1 (.cons 2 1 (.cons 3 1 (.cons 4 1 (.cons 5 1 (.cons 6 1 (.cons 7 1 (.cons 8 1 (.cons 9 1 (.cons 10 1 (.cons 11 1 (.cons 12 1 (.cons 13 1 (.cons 14 1 (.cons 15 1 (.cons 16 1 (.cons 17 1 (.cons 18 1 (.cons 19 1 (.cons 20 1 (.cons 21 1 (.cons 22 1 (.cons 23 1 (.cons 24 0 .nil))))))))))))))))))))))))) mixed (by kernel_rfl) fun w17 E4 => ?_
                replace H := H.grow E4
                replace R0 := H.ext
                refine DW.fix rfl rfl rfl (fun _ EQ => RV.fieldAddr Tf25_2 rfl) ?_
                refine DW.fix rfl rfl rfl (fun _ EQ => RV.load1 Tk23 rfl (((H.grow EQ).blk 4 rfl).cells.off 2) rfl) ?_
                refine DW.fix rfl rfl rfl (fun _ EQ => RV.move rfl) ?_
                obtain ⟨B2, e2, hh2⟩ := (H.tab 2 rfl).hd hx4
                refine DW.fix rfl rfl rfl (fun _ EQ => RV.indexAddr Ts23 rfl rfl hbx4 ((H.tab 2 rfl).addr_ hx4)) ?_
                refine DW.fix rfl rfl rfl (fun _ EQ => RV.load1 Tk22 rfl (((H.grow EQ).tab 2 rfl).cell hx4 hh2) rfl) ?_
                refine DW.fix rfl rfl rfl (fun _ EQ => RV.move rfl) ?_
                refine DW.fix rfl rfl rfl (fun _ EQ => RV.fieldAddr Tf25_2 rfl) ?_
                refine DW.fix rfl rfl rfl (fun _ EQ => RV.load1 Tk23 rfl (((H.grow EQ).blk 4 rfl).cells.off 2) rfl) ?_
                refine DW.fix rfl rfl rfl (fun _ EQ => RV.move rfl) ?_
                obtain ⟨B3, e3, hh3⟩ := (H.tab 2 rfl).hd hx5
                refine DW.fix rfl rfl rfl (fun _ EQ => RV.indexAddr Ts23 rfl rfl hbx5 ((H.tab 2 rfl).addr_ hx5)) ?_
                refine DW.fix rfl rfl rfl (fun _ EQ => RV.load1 Tk22 rfl (((H.grow EQ).tab 2 rfl).cell hx5 hh3) rfl) ?_
                refine DW.fix rfl rfl rfl (fun _ EQ => RV.move rfl) ?_
                refine DW.fix rfl rfl rfl (fun _ EQ => RV.indexAddr Ts22 rfl rfl hbx6 (((H.tab 2 rfl).rowO hx5 hh3).sl.addr_ hx6)) ?_
                refine DW.fix rfl rfl rfl (fun _ EQ => RV.load1 Tk3 rfl ((((H.grow EQ).tab 2 rfl).rowO hx5 hh3).sl.at_ hx6) rfl) ?_
                refine DW.fix rfl rfl rfl (fun _ EQ => RV.fieldAddr Tf25_2 rfl) ?_
                refine DW.fix rfl rfl rfl (fun _ EQ => RV.load1 Tk23 rfl (((H.grow EQ).blk 4 rfl).cells.off 2) rfl) ?_
                refine DW.fix rfl rfl rfl (fun _ EQ => RV.move rfl) ?_
                obtain ⟨B4, e4, hh4⟩ := (H.tab 2 rfl).hd hx7
                refine DW.fix rfl rfl rfl (fun _ EQ => RV.indexAddr Ts23 rfl rfl hbx7 ((H.tab 2 rfl).addr_ hx7)) ?_
                refine DW.fix rfl rfl rfl (fun _ EQ => RV.load1 Tk22 rfl (((H.grow EQ).tab 2 rfl).cell hx7 hh4) rfl) ?_
                refine DW.fix rfl rfl rfl (fun _ EQ => RV.move rfl) ?_
                refine DW.fix rfl rfl rfl (fun _ EQ => RV.indexAddr Ts22 rfl rfl hbx8 (((H.tab 2 rfl).rowO hx7 hh4).sl.addr_ hx8)) ?_
                refine DW.fix rfl rfl rfl (fun _ EQ => RV.load1 Tk3 rfl ((((H.grow EQ).tab 2 rfl).rowO hx7 hh4).sl.at_ hx8) rfl) ?_
                refine DW.fix rfl rfl rfl (fun _ EQ => RV.min2 rfl rfl) ?_
                refine DW.fix rfl rfl rfl (fun _ EQ => RV.indexAddr Ts22 rfl rfl hbx9 (((H.tab 2 rfl).rowO hx4 hh2).sl.addr_ hx9)) ?_
                refine DW.sole rfl rfl rfl (OW.storeO (enc := encN) (vs := [.int .i64 (min x6 x8)]) 0 (min x6 x8) Tk3 rfl rfl ((H.tab 2 rfl).rowO hx4 hh2) (fun _ => rfl) rfl hx9 rfl rfl (by decide) rfl rfl fun w18 M2 O2 => ?_)
                refine ⟨fun h => absurd h (by decide), M2.modx (fun _ _ => trivial), ?_⟩
                replace H : Hp w w18 [.own A14_0_supply c14_0_supply 3 1 (List.map encN ((r1.supply.set (Int.toNat a1) (x1 + x2)))), .own A14_0_demand c14_0_demand 3 1 (List.map encN r1.demand), .tab A14_0_cost c14_0_cost 22 hs14_0_cost 3 1 (encM encN ((m2.set (Int.toNat a1) (x4.set (Int.toNat t65_1) (min x6 x8))))), .blk b2 25 [.slice none 0 0, .slice none 0 0, .slice none 0 0], .blk b3 25 [.slice A14_0_supply r1.supply.length c14_0_supply, .slice A14_0_demand r1.demand.length c14_0_demand, .slice A14_0_cost m2.length c14_0_cost]] := H.tabRow 2 rfl hh2 hx4 (by simp) M2 O2
                replace R0 := H.ext
                have hrw1 : ((m2.set (Int.toNat a1) (x4.set (Int.toNat t65_1) (min x6 x8))))[Int.toNat a1]? = some (x4.set (Int.toNat t65_1) (min x6 x8)) := List.getElem?_set_self (lt_of_at hx4)
                refine DW.nil (hK22 _ _ ?_)
                obtain ⟨hg4, F⟩ := gd_some F
                refine CW.region ?_
                refine LW.pure rfl rfl (RV.add rfl rfl hg4) ?_
                refine LW.pure rfl rfl (RV.move rfl) ?_
                refine LW.nil ?_
                replace H := H.cast (L' := [.own A14_0_supply c14_0_supply 3 1 (List.map encN ((r1.supply.set (Int.toNat a1) (x1 + x2)))), .own A14_0_demand c14_0_demand 3 1 (List.map encN r1.demand), .tab A14_0_cost c14_0_cost 22 hs14_0_cost 3 1 (encM encN ((m2.set (Int.toNat a1) (x4.set (Int.toNat t65_1) (min x6 x8))))), .blk b2 25 [.slice none 0 0, .slice none 0 0, .slice none 0 0], .blk b3 25 [.slice A14_0_supply r1.supply.length c14_0_supply, .slice A14_0_demand r1.demand.length c14_0_demand, .slice A14_0_cost (((m2.set (Int.toNat a1) (x4.set (Int.toNat t65_1) (min x6 x8)))).length) c14_0_cost]]) (by first | rfl | (simp only [List.length_set]; done) | simp)
                subst hrec1
                refine ⟨mk1, Nat.lt_succ_self _, _, ?_, (t65_1 + 1), ((m2.set (Int.toNat a1) (x4.set (Int.toNat t65_1) (min x6 x8)))), F, rfl, H⟩
                exact ⟨rfl, rfl, rfl, rfl, rfl, rfl, rfl, trivial⟩
              ·
                replace F := ite_n hp5 F
                have hq5 := dec_f hp5
                refine CW.condF rfl hq5 ?_
                refine CW.exit (jK77 _ _ ⟨_, ?_, ⟨m2, F, rfl, H⟩⟩)
                exact ⟨rfl, rfl, rfl, rfl, trivial⟩
    ·
      intro K24 hK24 jK91
      obtain ⟨hg5, F⟩ := gd_some F
      obtain ⟨r5, hr5, F⟩ := bnd_some F
      by_cases hp6 : r5 = true
      ·
        replace F := ite_y hp6 F
        have hq6 : r5 = true := hp6
        obtain ⟨hg6, F⟩ := gd_some F
        obtain ⟨r6, hr6, F⟩ := bnd_some F
        refine CW.region ?_
        refine LW.pure rfl rfl (RV.move rfl) ?_
        refine LW.pure rfl rfl (RV.fieldAddr Tf25_0 rfl) ?_
        refine LW.pure rfl rfl (RV.load1 Tk22 rfl ((H.blk 1 rfl).cells.off 0) rfl) ?_
        refine LW.pure rfl rfl (RV.len Ts22 rfl) ?_
        refine LW.pure rfl rfl (RV.sub rfl rfl hg5) ?_
        refine LW.go rfl rfl (OW.call Tc64 rfl (bulk_within_ok (a0 := a1) (a1 := (0 : Int)) (a2 := ((a0.supply.length : Int)) - 1) hr5) ?_)
        rintro _ w19 ⟨rfl, E5⟩
        refine ⟨_, rfl, ?_⟩
        replace H := H.grow E5
        replace R0 := H.ext
        refine LW.pure rfl rfl (RV.not rfl) ?_
        refine LW.pure rfl rfl (RV.move rfl) ?_
        refine LW.pureYB rfl rfl rfl rfl (not_f hq6) (RV.move rfl) ?_
        refine LW.pureYB rfl rfl rfl rfl (not_f hq6) (RV.fieldAddr Tf25_0 rfl) ?_
        refine LW.pureYB rfl rfl rfl rfl (not_f hq6) (RV.load1 Tk22 rfl ((H.blk 1 rfl).cells.off 0) rfl) ?_
        refine LW.pureYB rfl rfl rfl rfl (not_f hq6) (RV.len Ts22 rfl) ?_
        refine LW.pureYB rfl rfl rfl rfl (not_f hq6) (RV.sub rfl rfl hg6) ?_
        refine LW.yesB rfl rfl rfl rfl (not_f hq6) (OW.call Tc64 rfl (bulk_within_ok (a0 := a2) (a1 := (0 : Int)) (a2 := ((a0.supply.length : Int)) - 1) hr6) ?_)
        rintro _ w20 ⟨rfl, E6⟩
        refine ⟨_, rfl, ?_⟩
        replace H := H.grow E6
        replace R0 := H.ext
        refine LW.pureYB rfl rfl rfl rfl (not_f hq6) (RV.not rfl) ?_
        refine LW.pure rfl rfl (RV.pickFB rfl (not_f hq6) rfl) ?_
        replace H := H.pick (L' := [.blk b1 25 [.slice A_a0_supply a0.supply.length c_a0_supply, .slice A_a0_demand a0.demand.length c_a0_demand, .slice A_a0_cost a0.cost.length c_a0_cost], .blk b2 25 [.slice none 0 0, .slice none 0 0, .slice none 0 0]]) [1, 0] (by decide) rfl
        replace R0 := H.ext
        refine LW.nil (jK91 _ _ ⟨_, ?_, ⟨(!r6), F, rfl, H⟩⟩)
        exact ⟨rfl, rfl, rfl, rfl, rfl, rfl, trivial⟩
      ·
        replace F := ite_n hp6 F
        have hq6 : r5 = false := raw_f hp6
        refine CW.region ?_
        refine LW.pure rfl rfl (RV.move rfl) ?_
        refine LW.pure rfl rfl (RV.fieldAddr Tf25_0 rfl) ?_
        refine LW.pure rfl rfl (RV.load1 Tk22 rfl ((H.blk 1 rfl).cells.off 0) rfl) ?_
        refine LW.pure rfl rfl (RV.len Ts22 rfl) ?_
        refine LW.pure rfl rfl (RV.sub rfl rfl hg5) ?_
        refine LW.go rfl rfl (OW.call Tc64 rfl (bulk_within_ok (a0 := a1) (a1 := (0 : Int)) (a2 := ((a0.supply.length : Int)) - 1) hr5) ?_)
        rintro _ w21 ⟨rfl, E7⟩
        refine ⟨_, rfl, ?_⟩
        replace H := H.grow E7
        replace R0 := H.ext
        refine LW.pure rfl rfl (RV.not rfl) ?_
        refine LW.pure rfl rfl (RV.move rfl) ?_
        refine LW.noB rfl rfl rfl rfl (ne_beq (v := true) (not_t hq6) rfl) ?_
        refine LW.noB rfl rfl rfl rfl (ne_beq (v := true) (not_t hq6) rfl) ?_
        refine LW.noB rfl rfl rfl rfl (ne_beq (v := true) (not_t hq6) rfl) ?_
        refine LW.noB rfl rfl rfl rfl (ne_beq (v := true) (not_t hq6) rfl) ?_
        refine LW.noB rfl rfl rfl rfl (ne_beq (v := true) (not_t hq6) rfl) ?_
        refine LW.noB rfl rfl rfl rfl (ne_beq (v := true) (not_t hq6) rfl) ?_
        refine LW.noB rfl rfl rfl rfl (ne_beq (v := true) (not_t hq6) rfl) ?_
        refine LW.pure rfl rfl (RV.pickTB rfl (not_t hq6) rfl) ?_
        replace H := H.pick (L' := [.blk b1 25 [.slice A_a0_supply a0.supply.length c_a0_supply, .slice A_a0_demand a0.demand.length c_a0_demand, .slice A_a0_cost a0.cost.length c_a0_cost], .blk b2 25 [.slice none 0 0, .slice none 0 0, .slice none 0 0]]) [1, 0] (by decide) rfl
        replace R0 := H.ext
        refine LW.nil (jK91 _ _ ⟨_, ?_, ⟨true, F, rfl, H⟩⟩)
        exact ⟨rfl, rfl, rfl, rfl, rfl, rfl, trivial⟩
  ·
    replace F := ite_n hp1 F
    have hq1 := dec_f hp1
    refine CW.condT rfl (not_t hq1) ?_
    refine CW.seq fun K25 hK25 => ?_
    refine CW.region ?_
    refine LW.pure rfl rfl (RV.build (vs := []) (cs := [.slice none 0 0, .slice none 0 0, .slice none 0 0]) rfl (fun _ => by kernel_rfl)) ?_
    refine LW.pure rfl rfl (RV.move rfl) ?_
    refine LW.go rfl rfl (OW.store Tk25 rfl rfl (H.blk 0 rfl) (off := 0) (vs := [.slice none 0 0, .slice none 0 0, .slice none 0 0]) rfl rfl rfl rfl rfl fun w22 S8 => ?_)
    replace H : Hp w w22 [.blk b2 25 [.slice none 0 0, .slice none 0 0, .slice none 0 0], .blk b1 25 [.slice A_a0_supply a0.supply.length c_a0_supply, .slice A_a0_demand a0.demand.length c_a0_demand, .slice A_a0_cost a0.cost.length c_a0_cost]] := H.stored 0 rfl S8
    replace R0 := H.ext
    refine LW.pure rfl rfl (RV.assign rfl) ?_
    refine LW.nil (hK25 _ _ ?_)
    refine CW.ret ?_
    obtain rfl := Option.some.inj F
    refine ⟨_, (ResOK.two ⟨_, rfl, run_loadVar_agg Tk25 (H.blk 0 rfl).cells (us := [.slice none 0 0, .slice none 0 0, .slice none 0 0]) rfl rfl⟩ rfl), ?_⟩
    replace H := H.nilOwn 3 1
    replace R0 := H.ext
    replace H := H.nilOwn 3 1
    replace R0 := H.ext
    replace H := H.nilTab encN 22 3 1
    replace R0 := H.ext
    replace H := H.pick (L' := [.own none 0 3 1 (List.map encN (([] : List Int))), .own none 0 3 1 (List.map encN (([] : List Int))), .tab none 0 22 ([]) 3 1 (encM encN (([] : List (List Int))))]) [2, 1, 0] (by decide) rfl
    replace R0 := H.ext
    exact ⟨none, 0, none, 0, none, 0, ([]), (by first | rfl | (simp; done) | (simp; omega)), H⟩
end Go.D7

set_option linter.unusedVariables false
set_option linter.unusedSimpArgs false
namespace Go.D7
open Go.Tb Go.Proofs Go.RowKit
theorem Tc35 : callable Try.prog 35 = true := by kernel_rfl
theorem Tc36 : callable Try.prog 36 = true := by kernel_rfl
set_option maxRecDepth 20000 in
set_option maxHeartbeats 1000000 in
theorem law07_BulkMerges_ok {a0 : Trade} {a1 : Int} {a2 : Int} {A_a0_supply : Option Addr} {c_a0_supply : Nat} {A_a0_demand : Option Addr} {c_a0_demand : Nat} {A_a0_cost : Option Addr} {c_a0_cost : Nat} {w : World} {res : Bool} (h_a0_supply : Sl w A_a0_supply c_a0_supply 1 (a0.supply.map encN)) (h_a0_demand : Sl w A_a0_demand c_a0_demand 1 (a0.demand.map encN)) (h_a0_cost : Sl2 w A_a0_cost c_a0_cost 1 encN a0.cost) (F : law07_BulkMerges a0 a1 a2 = some res) : Calls Try.prog 8 #[.agg #[.slice A_a0_supply a0.supply.length c_a0_supply, .slice A_a0_demand a0.demand.length c_a0_demand, .slice A_a0_cost a0.cost.length c_a0_cost], .int .i64 a1, .int .i64 a2] w (Rt w (.bool res)) := by
  refine calls_of_cw (args := [.agg #[.slice A_a0_supply a0.supply.length c_a0_supply, .slice A_a0_demand a0.demand.length c_a0_demand, .slice A_a0_cost a0.cost.length c_a0_cost], .int .i64 a1, .int .i64 a2]) Try.func8 rfl rfl rfl rfl ?_
  have H := Hp.start w
  have R0 := H.ext
  unfold law07_BulkMerges at F
  refine CW.seq fun K1 hK1 => ?_
  refine CW.region ?_
  refine LW.go rfl rfl (OW.box rfl fun b1 w1 N1 => ?_)
  replace H := H.new N1 N1.blk
  replace R0 := H.ext
  refine LW.pure rfl rfl (RV.assign rfl) ?_
  refine LW.nil (hK1 _ _ ?_)
  refine CW.seq fun K2 hK2 => ?_
  refine CW.seq fun K3 hK3 => ?_
  obtain ⟨r6, hr6, F⟩ := bnd_some F
  refine CW.region ?_
  refine LW.pure rfl rfl (RV.loadA [.slice A_a0_supply a0.supply.length c_a0_supply, .slice A_a0_demand a0.demand.length c_a0_demand, .slice A_a0_cost a0.cost.length c_a0_cost] Tk25 rfl (H.blk 0 rfl).cells rfl rfl) ?_
  refine LW.go rfl rfl (OW.call Tc17 rfl (law07_Long_ok (a0 := a0) (a1 := ([] : List (List (List Int)))) (h_a0_supply.ext R0) (h_a0_demand.ext R0) (h_a0_cost.ext R0) (Sl3.nil_) hr6) ?_)
  rintro _ w2 ⟨rfl, E1⟩
  refine ⟨_, rfl, ?_⟩
  replace H := H.grow E1
  replace R0 := H.ext
  refine LW.nil (hK3 _ _ ?_)
  by_cases hp1 : r6 = true
  ·
    replace F := ite_y hp1 F
    have hq1 : r6 = true := hp1
    refine CW.condT rfl hq1 ?_
    refine CW.seq fun K4 hK4 => ?_
    obtain ⟨r7, hr7, F⟩ := bnd_some F
    refine CW.region ?_
    refine LW.go rfl rfl (OW.call Tc18 rfl (law07_sane_ok hr7) ?_)
    rintro _ w3 ⟨rfl, E2⟩
    refine ⟨_, rfl, ?_⟩
    replace H := H.grow E2
    replace R0 := H.ext
    refine LW.pure rfl rfl (RV.assign rfl) ?_
    refine LW.nil (hK4 _ _ ?_)
    refine CW.ret ?_
    obtain rfl := Option.some.inj F
    refine ⟨_, (ResOK.one rfl), ?_⟩
    refine ⟨(by first | rfl | simp), R0⟩
  ·
    replace F := ite_n hp1 F
    have hq1 : r6 = false := raw_f hp1
    refine CW.condF rfl hq1 ?_
    refine CW.skip (hK2 _ _ ?_)
    refine CW.seq fun K5 hK5 => ?_
    obtain ⟨r1, hr1, F⟩ := bnd_some F
    refine CW.region ?_
    refine LW.pure rfl rfl (RV.loadA [.slice A_a0_supply a0.supply.length c_a0_supply, .slice A_a0_demand a0.demand.length c_a0_demand, .slice A_a0_cost a0.cost.length c_a0_cost] Tk25 rfl (H.blk 0 rfl).cells rfl rfl) ?_
    refine LW.pure rfl rfl (RV.move rfl) ?_
    refine LW.pure rfl rfl (RV.move rfl) ?_
    refine LW.go rfl rfl (OW.call Tc35 rfl (bulk_Merge_ok (a0 := a0) (a1 := a1) (a2 := a2) (h_a0_supply.ext R0) (h_a0_demand.ext R0) (h_a0_cost.ext R0) hr1) ?_)
    rintro _ w4 ⟨A16_0_supply, c16_0_supply, A16_0_demand, c16_0_demand, A16_0_cost, c16_0_cost, hs16_0_cost, rfl, E3⟩
    refine ⟨_, rfl, ?_⟩
    replace H : Hp w w4 [.own A16_0_supply c16_0_supply 3 1 (List.map encN r1.1.supply), .own A16_0_demand c16_0_demand 3 1 (List.map encN r1.1.demand), .tab A16_0_cost c16_0_cost 22 hs16_0_cost 3 1 (encM encN r1.1.cost), .blk b1 25 [.slice A_a0_supply a0.supply.length c_a0_supply, .slice A_a0_demand a0.demand.length c_a0_demand, .slice A_a0_cost a0.cost.length c_a0_cost]] := H.append E3
    replace R0 := H.ext
    refine LW.pure rfl rfl (RV.move rfl) ?_
    refine LW.pure rfl rfl (RV.extract rfl rfl) ?_
    refine LW.pure rfl rfl (RV.extract rfl rfl) ?_
    refine LW.go rfl rfl (OW.alloc Tz25 fun b2 w5 N2 => ?_)
    replace H := H.new N2 N2.blk
    replace R0 := H.ext
    refine LW.go rfl rfl (OW.store Tk25 rfl rfl (H.blk 0 rfl) (off := 0) (vs := [.slice A16_0_supply r1.1.supply.length c16_0_supply, .slice A16_0_demand r1.1.demand.length c16_0_demand, .slice A16_0_cost r1.1.cost.length c16_0_cost]) rfl rfl rfl rfl rfl fun w6 S1 => ?_)
    replace H : Hp w w6 [.blk b2 25 [.slice A16_0_supply r1.1.supply.length c16_0_supply, .slice A16_0_demand r1.1.demand.length c16_0_demand, .slice A16_0_cost r1.1.cost.length c16_0_cost], .own A16_0_supply c16_0_supply 3 1 (List.map encN r1.1.supply), .own A16_0_demand c16_0_demand 3 1 (List.map encN r1.1.demand), .tab A16_0_cost c16_0_cost 22 hs16_0_cost 3 1 (encM encN r1.1.cost), .blk b1 25 [.slice A_a0_supply a0.supply.length c_a0_supply, .slice A_a0_demand a0.demand.length c_a0_demand, .slice A_a0_cost a0.cost.length c_a0_cost]] := H.stored 0 rfl S1
    replace R0 := H.ext
    refine LW.pure rfl rfl (RV.assign rfl) ?_
    refine LW.nil (hK5 _ _ ?_)
    refine CW.seq fun K6 hK6 => ?_
    obtain ⟨r8, hr8, F⟩ := bnd_some F
    refine CW.region ?_
    refine LW.pure rfl rfl (RV.loadA [.slice A_a0_supply a0.supply.length c_a0_supply, .slice A_a0_demand a0.demand.length c_a0_demand, .slice A_a0_cost a0.cost.length c_a0_cost] Tk25 rfl (H.blk 4 rfl).cells rfl rfl) ?_
    refine LW.pure rfl rfl (RV.move rfl) ?_
    refine LW.pure rfl rfl (RV.move rfl) ?_
    refine LW.go rfl rfl (OW.call Tc36 rfl (ref07_Merge_ok (a0 := a0) (a1 := a1) (a2 := a2) (h_a0_supply.ext R0) (h_a0_demand.ext R0) (h_a0_cost.ext R0) hr8) ?_)
    rintro _ w7 ⟨A18_0_supply, c18_0_supply, A18_0_demand, c18_0_demand, A18_0_cost, c18_0_cost, hs18_0_cost, rfl, E4⟩
    refine ⟨_, rfl, ?_⟩
    replace H : Hp w w7 [.own A18_0_supply c18_0_supply 3 1 (List.map encN r8.1.supply), .own A18_0_demand c18_0_demand 3 1 (List.map encN r8.1.demand), .tab A18_0_cost c18_0_cost 22 hs18_0_cost 3 1 (encM encN r8.1.cost), .blk b2 25 [.slice A16_0_supply r1.1.supply.length c16_0_supply, .slice A16_0_demand r1.1.demand.length c16_0_demand, .slice A16_0_cost r1.1.cost.length c16_0_cost], .own A16_0_supply c16_0_supply 3 1 (List.map encN r1.1.supply), .own A16_0_demand c16_0_demand 3 1 (List.map encN r1.1.demand), .tab A16_0_cost c16_0_cost 22 hs16_0_cost 3 1 (encM encN r1.1.cost), .blk b1 25 [.slice A_a0_supply a0.supply.length c_a0_supply, .slice A_a0_demand a0.demand.length c_a0_demand, .slice A_a0_cost a0.cost.length c_a0_cost]] := H.append E4
    replace R0 := H.ext
    refine LW.pure rfl rfl (RV.move rfl) ?_
    refine LW.pure rfl rfl (RV.extract rfl rfl) ?_
    refine LW.pure rfl rfl (RV.extract rfl rfl) ?_
    refine LW.go rfl rfl (OW.alloc Tz25 fun b3 w8 N3 => ?_)
    replace H := H.new N3 N3.blk
    replace R0 := H.ext
    refine LW.go rfl rfl (OW.store Tk25 rfl rfl (H.blk 0 rfl) (off := 0) (vs := [.slice A18_0_supply r8.1.supply.length c18_0_supply, .slice A18_0_demand r8.1.demand.length c18_0_demand, .slice A18_0_cost r8.1.cost.length c18_0_cost]) rfl rfl rfl rfl rfl fun w9 S2 => ?_)
    replace H : Hp w w9 [.blk b3 25 [.slice A18_0_supply r8.1.supply.length c18_0_supply, .slice A18_0_demand r8.1.demand.length c18_0_demand, .slice A18_0_cost r8.1.cost.length c18_0_cost], .own A18_0_supply c18_0_supply 3 1 (List.map encN r8.1.supply), .own A18_0_demand c18_0_demand 3 1 (List.map encN r8.1.demand), .tab A18_0_cost c18_0_cost 22 hs18_0_cost 3 1 (encM encN r8.1.cost), .blk b2 25 [.slice A16_0_supply r1.1.supply.length c16_0_supply, .slice A16_0_demand r1.1.demand.length c16_0_demand, .slice A16_0_cost r1.1.cost.length c16_0_cost], .own A16_0_supply c16_0_supply 3 1 (List.map encN r1.1.supply), .own A16_0_demand c16_0_demand 3 1 (List.map encN r1.1.demand), .tab A16_0_cost c16_0_cost 22 hs16_0_cost 3 1 (encM encN r1.1.cost), .blk b1 25 [.slice A_a0_supply a0.supply.length c_a0_supply, .slice A_a0_demand a0.demand.length c_a0_demand, .slice A_a0_cost a0.cost.length c_a0_cost]] := H.stored 0 rfl S2
    replace R0 := H.ext
    refine LW.pure rfl rfl (RV.assign rfl) ?_
    refine LW.nil (hK6 _ _ ?_)
    refine CW.seq fun K7 hK7 => ?_
    refine CW.seqJ (fun ρ wl1 => (∃ (t40_1 : Bool), law07_BulkMerges_k1 a0 r1 t40_1 = some res ∧ ρ = [(3, .pointer (some (⟨b1, 0, none⟩))), (6, .bool false), (7, .pointer (some (⟨b2, 0, none⟩))), (8, .int .i64 r1.2), (40, .bool t40_1)] ∧ Hp w wl1 [.own A16_0_supply c16_0_supply 3 1 (List.map encN r1.1.supply), .own A16_0_demand c16_0_demand 3 1 (List.map encN r1.1.demand), .tab A16_0_cost c16_0_cost 22 hs16_0_cost 3 1 (encM encN r1.1.cost), .blk b1 25 [.slice A_a0_supply a0.supply.length c_a0_supply, .slice A_a0_demand a0.demand.length c_a0_demand, .slice A_a0_cost a0.cost.length c_a0_cost], .blk b2 25 [.slice A16_0_supply r1.1.supply.length c16_0_supply, .slice A16_0_demand r1.1.demand.length c16_0_demand, .slice A16_0_cost r1.1.cost.length c16_0_cost]])) ?_ ?_
    ·
      rintro _ wl1 ⟨t40_1, F, rfl, H⟩
      have R0 := H.ext
      unfold law07_BulkMerges_k1 at F
      by_cases hp2 : t40_1 = true
      ·
        replace F := ite_y hp2 F
        have hq2 : t40_1 = true := hp2
        refine CW.condT rfl hq2 ?_
        refine CW.seq fun K8 hK8 => ?_
        refine CW.region ?_
        refine LW.pure rfl rfl (RV.assign rfl) ?_
        refine LW.nil (hK8 _ _ ?_)
        refine CW.ret ?_
        obtain rfl := Option.some.inj F
        refine ⟨_, (ResOK.one rfl), ?_⟩
        refine ⟨(by first | rfl | simp), R0⟩
      ·
        replace F := ite_n hp2 F
        have hq2 : t40_1 = false := raw_f hp2
        refine CW.condF rfl hq2 ?_
        refine CW.skip (hK7 _ _ ?_)
        refine CW.seq fun K9 hK9 => ?_
        refine CW.seq fun K10 hK10 => ?_
        refine CW.region ?_
        refine LW.pure rfl rfl (RV.move rfl) ?_
        refine LW.pure rfl rfl (RV.nei rfl rfl) ?_
        refine LW.nil (hK10 _ _ ?_)
        by_cases hp3 : r1.2 = 0
        ·
          replace F := ite_y hp3 F
          have hq3 := dec_t hp3
          refine CW.condF rfl (not_f hq3) ?_
          refine CW.skip (hK9 _ _ ?_)
          refine CW.seq fun K11 hK11 => ?_
          obtain ⟨r2, hr2, F⟩ := bnd_some F
          refine CW.region ?_
          refine LW.pure rfl rfl (RV.loadA [.slice A16_0_supply r1.1.supply.length c16_0_supply, .slice A16_0_demand r1.1.demand.length c16_0_demand, .slice A16_0_cost r1.1.cost.length c16_0_cost] Tk25 rfl (H.blk 4 rfl).cells rfl rfl) ?_
          refine LW.go rfl rfl (OW.call Tc21 rfl (bulk_Least_ok (a0 := r1.1) (H.own 0 rfl).sl (H.own 1 rfl).sl (H.tab 2 rfl).sl2 hr2) ?_)
          rintro _ w10 ⟨rfl, E5⟩
          refine ⟨_, rfl, ?_⟩
          replace H := H.grow E5
          replace R0 := H.ext
          refine LW.pure rfl rfl (RV.move rfl) ?_
          refine LW.pure rfl rfl (RV.extract rfl rfl) ?_
          refine LW.pure rfl rfl (RV.extract rfl rfl) ?_
          refine LW.pure rfl rfl (RV.assign rfl) ?_
          refine LW.pure rfl rfl (RV.assign rfl) ?_
          refine LW.nil (hK11 _ _ ?_)
          refine CW.seq fun K12 hK12 => ?_
          obtain ⟨r3, hr3, F⟩ := bnd_some F
          refine CW.region ?_
          refine LW.pure rfl rfl (RV.loadA [.slice A_a0_supply a0.supply.length c_a0_supply, .slice A_a0_demand a0.demand.length c_a0_demand, .slice A_a0_cost a0.cost.length c_a0_cost] Tk25 rfl (H.blk 3 rfl).cells rfl rfl) ?_
          refine LW.go rfl rfl (OW.call Tc21 rfl (bulk_Least_ok (a0 := a0) (h_a0_supply.ext R0) (h_a0_demand.ext R0) (h_a0_cost.ext R0) hr3) ?_)
          rintro _ w11 ⟨rfl, E6⟩
          refine ⟨_, rfl, ?_⟩
          replace H := H.grow E6
          replace R0 := H.ext
          refine LW.pure rfl rfl (RV.move rfl) ?_
          refine LW.pure rfl rfl (RV.extract rfl rfl) ?_
          refine LW.pure rfl rfl (RV.extract rfl rfl) ?_
          refine LW.pure rfl rfl (RV.assign rfl) ?_
          refine LW.pure rfl rfl (RV.assign rfl) ?_
          refine LW.nil (hK12 _ _ ?_)
          refine CW.seq fun K13 hK13 => ?_
          by_cases hp4 : r2.2 = 0
          ·
            replace F := ite_y hp4 F
            have hq4 := dec_t hp4
            by_cases hp5 : r3.2 = 0
            ·
              replace F := ite_y hp5 F
              have hq5 := dec_t hp5
              by_cases hp6 : r2.1 ≤ r3.1
              ·
                replace F := ite_y hp6 F
                have hq6 := dec_t hp6
                obtain ⟨r4, hr4, F⟩ := bnd_some F
                refine CW.region ?_
                refine LW.pure rfl rfl (RV.move rfl) ?_
                refine LW.pure rfl rfl (RV.eqi rfl rfl) ?_
                refine LW.pure rfl rfl (RV.move rfl) ?_
                refine LW.pureYB rfl rfl rfl rfl hq4 (RV.move rfl) ?_
                refine LW.pureYB rfl rfl rfl rfl hq4 (RV.eqi rfl rfl) ?_
                refine LW.pure rfl rfl (RV.pickTB rfl hq4 rfl) ?_
                refine LW.pure rfl rfl (RV.move rfl) ?_
                refine LW.pureYB rfl rfl rfl rfl hq5 (RV.move rfl) ?_
                refine LW.pureYB rfl rfl rfl rfl hq5 (RV.move rfl) ?_
                refine LW.pureYB rfl rfl rfl rfl hq5 (RV.leq rfl rfl) ?_
                refine LW.pure rfl rfl (RV.pickTB rfl hq5 rfl) ?_
                refine LW.pure rfl rfl (RV.move rfl) ?_
                refine LW.yesB rfl rfl rfl rfl hq6 (OW.call Tc18 rfl (law07_sane_ok hr4) ?_)
                rintro _ w12 ⟨rfl, E7⟩
                refine ⟨_, rfl, ?_⟩
                replace H := H.grow E7
                replace R0 := H.ext
                refine LW.pure rfl rfl (RV.pickTB rfl hq6 rfl) ?_
                refine LW.pure rfl rfl (RV.assign rfl) ?_
                refine LW.nil (hK13 _ _ ?_)
                refine CW.ret ?_
                obtain rfl := Option.some.inj F
                refine ⟨_, (ResOK.one rfl), ?_⟩
                refine ⟨(by first | rfl | simp), R0⟩
              ·
                replace F := ite_n hp6 F
                have hq6 := dec_f hp6
                refine CW.region ?_
                refine LW.pure rfl rfl (RV.move rfl) ?_
                refine LW.pure rfl rfl (RV.eqi rfl rfl) ?_
                refine LW.pure rfl rfl (RV.move rfl) ?_
                refine LW.pureYB rfl rfl rfl rfl hq4 (RV.move rfl) ?_
                refine LW.pureYB rfl rfl rfl rfl hq4 (RV.eqi rfl rfl) ?_
                refine LW.pure rfl rfl (RV.pickTB rfl hq4 rfl) ?_
                refine LW.pure rfl rfl (RV.move rfl) ?_
                refine LW.pureYB rfl rfl rfl rfl hq5 (RV.move rfl) ?_
                refine LW.pureYB rfl rfl rfl rfl hq5 (RV.move rfl) ?_
                refine LW.pureYB rfl rfl rfl rfl hq5 (RV.leq rfl rfl) ?_
                refine LW.pure rfl rfl (RV.pickTB rfl hq5 rfl) ?_
                refine LW.pure rfl rfl (RV.move rfl) ?_
                refine LW.noB rfl rfl rfl rfl (ne_beq (v := false) hq6 rfl) ?_
                refine LW.pure rfl rfl (RV.pickFB rfl hq6 rfl) ?_
                refine LW.pure rfl rfl (RV.assign rfl) ?_
                refine LW.nil (hK13 _ _ ?_)
                refine CW.ret ?_
                obtain rfl := Option.some.inj F
                refine ⟨_, (ResOK.one rfl), ?_⟩
                refine ⟨(by first | rfl | simp), R0⟩
            ·
              replace F := ite_n hp5 F
              have hq5 := dec_f hp5
              refine CW.region ?_
              refine LW.pure rfl rfl (RV.move rfl) ?_
              refine LW.pure rfl rfl (RV.eqi rfl rfl) ?_
              refine LW.pure rfl rfl (RV.move rfl) ?_
              refine LW.pureYB rfl rfl rfl rfl hq4 (RV.move rfl) ?_
              refine LW.pureYB rfl rfl rfl rfl hq4 (RV.eqi rfl rfl) ?_
              refine LW.pure rfl rfl (RV.pickTB rfl hq4 rfl) ?_
              refine LW.pure rfl rfl (RV.move rfl) ?_
              refine LW.noB rfl rfl rfl rfl (ne_beq (v := false) hq5 rfl) ?_
              refine LW.noB rfl rfl rfl rfl (ne_beq (v := false) hq5 rfl) ?_
              refine LW.noB rfl rfl rfl rfl (ne_beq (v := false) hq5 rfl) ?_
              refine LW.pure rfl rfl (RV.pickFB rfl hq5 rfl) ?_
              refine LW.pure rfl rfl (RV.move rfl) ?_
              refine LW.noB rfl rfl rfl rfl (ne_beq (v := false) rfl rfl) ?_
              refine LW.pure rfl rfl (RV.pickFB rfl rfl rfl) ?_
              refine LW.pure rfl rfl (RV.assign rfl) ?_
              refine LW.nil (hK13 _ _ ?_)
              refine CW.ret ?_
              obtain rfl := Option.some.inj F
              refine ⟨_, (ResOK.one rfl), ?_⟩
              refine ⟨(by first | rfl | simp), R0⟩
          ·
            replace F := ite_n hp4 F
            have hq4 := dec_f hp4
            refine CW.region ?_
            refine LW.pure rfl rfl (RV.move rfl) ?_
            refine LW.pure rfl rfl (RV.eqi rfl rfl) ?_
            refine LW.pure rfl rfl (RV.move rfl) ?_
            refine LW.noB rfl rfl rfl rfl (ne_beq (v := false) hq4 rfl) ?_
            refine LW.noB rfl rfl rfl rfl (ne_beq (v := false) hq4 rfl) ?_
            refine LW.pure rfl rfl (RV.pickFB rfl hq4 rfl) ?_
            refine LW.pure rfl rfl (RV.move rfl) ?_
            refine LW.noB rfl rfl rfl rfl (ne_beq (v := false) rfl rfl) ?_
            refine LW.noB rfl rfl rfl rfl (ne_beq (v := false) rfl rfl) ?_
            refine LW.noB rfl rfl rfl rfl (ne_beq (v := false) rfl rfl) ?_
            refine LW.pure rfl rfl (RV.pickFB rfl rfl rfl) ?_
            refine LW.pure rfl rfl (RV.move rfl) ?_
            refine LW.noB rfl rfl rfl rfl (ne_beq (v := false) rfl rfl) ?_
            refine LW.pure rfl rfl (RV.pickFB rfl rfl rfl) ?_
            refine LW.pure rfl rfl (RV.assign rfl) ?_
            refine LW.nil (hK13 _ _ ?_)
            refine CW.ret ?_
            obtain rfl := Option.some.inj F
            refine ⟨_, (ResOK.one rfl), ?_⟩
            refine ⟨(by first | rfl | simp), R0⟩
        ·
          replace F := ite_n hp3 F
          have hq3 := dec_f hp3
          refine CW.condT rfl (not_t hq3) ?_
          refine CW.seq fun K14 hK14 => ?_
          obtain ⟨r5, hr5, F⟩ := bnd_some F
          refine CW.region ?_
          refine LW.go rfl rfl (OW.call Tc18 rfl (law07_sane_ok hr5) ?_)
          rintro _ w13 ⟨rfl, E8⟩
          refine ⟨_, rfl, ?_⟩
          replace H := H.grow E8
          replace R0 := H.ext
          refine LW.pure rfl rfl (RV.assign rfl) ?_
          refine LW.nil (hK14 _ _ ?_)
          refine CW.ret ?_
          obtain rfl := Option.some.inj F
          refine ⟨_, (ResOK.one rfl), ?_⟩
          refine ⟨(by first | rfl | simp), R0⟩
    ·
      intro K15 hK15 jK30
      obtain ⟨r9, hr9, F⟩ := bnd_some F
      by_cases hp7 : r9 = true
      ·
        replace F := ite_y hp7 F
        have hq7 : r9 = true := hp7
        refine CW.region ?_
        refine LW.pure rfl rfl (RV.loadA [.slice A16_0_supply r1.1.supply.length c16_0_supply, .slice A16_0_demand r1.1.demand.length c16_0_demand, .slice A16_0_cost r1.1.cost.length c16_0_cost] Tk25 rfl (H.blk 4 rfl).cells rfl rfl) ?_
        refine LW.pure rfl rfl (RV.loadA [.slice A18_0_supply r8.1.supply.length c18_0_supply, .slice A18_0_demand r8.1.demand.length c18_0_demand, .slice A18_0_cost r8.1.cost.length c18_0_cost] Tk25 rfl (H.blk 0 rfl).cells rfl rfl) ?_
        refine LW.go rfl rfl (OW.call Tc30 rfl (ref07_Same_ok (a0 := r1.1) (a1 := r8.1) (H.own 5 rfl).sl (H.own 6 rfl).sl (H.tab 7 rfl).sl2 (H.own 1 rfl).sl (H.own 2 rfl).sl (H.tab 3 rfl).sl2 hr9) ?_)
        rintro _ w14 ⟨rfl, E9⟩
        refine ⟨_, rfl, ?_⟩
        replace H := H.grow E9
        replace R0 := H.ext
        refine LW.pure rfl rfl (RV.not rfl) ?_
        refine LW.pure rfl rfl (RV.move rfl) ?_
        refine LW.pureYB rfl rfl rfl rfl (not_f hq7) (RV.move rfl) ?_
        refine LW.pureYB rfl rfl rfl rfl (not_f hq7) (RV.move rfl) ?_
        refine LW.pureYB rfl rfl rfl rfl (not_f hq7) (RV.nei rfl rfl) ?_
        refine LW.pure rfl rfl (RV.pickFB rfl (not_f hq7) rfl) ?_
        replace H := H.pick (L' := [.own A16_0_supply c16_0_supply 3 1 (List.map encN r1.1.supply), .own A16_0_demand c16_0_demand 3 1 (List.map encN r1.1.demand), .tab A16_0_cost c16_0_cost 22 hs16_0_cost 3 1 (encM encN r1.1.cost), .blk b1 25 [.slice A_a0_supply a0.supply.length c_a0_supply, .slice A_a0_demand a0.demand.length c_a0_demand, .slice A_a0_cost a0.cost.length c_a0_cost], .blk b2 25 [.slice A16_0_supply r1.1.supply.length c16_0_supply, .slice A16_0_demand r1.1.demand.length c16_0_demand, .slice A16_0_cost r1.1.cost.length c16_0_cost]]) [5, 6, 7, 8, 4] (by decide) rfl
        replace R0 := H.ext
        refine LW.nil (jK30 _ _ ⟨_, ?_, ⟨(!(decide (r1.2 = r8.2))), F, rfl, H⟩⟩)
        exact ⟨rfl, rfl, rfl, rfl, rfl, trivial⟩
      ·
        replace F := ite_n hp7 F
        have hq7 : r9 = false := raw_f hp7
        refine CW.region ?_
        refine LW.pure rfl rfl (RV.loadA [.slice A16_0_supply r1.1.supply.length c16_0_supply, .slice A16_0_demand r1.1.demand.length c16_0_demand, .slice A16_0_cost r1.1.cost.length c16_0_cost] Tk25 rfl (H.blk 4 rfl).cells rfl rfl) ?_
        refine LW.pure rfl rfl (RV.loadA [.slice A18_0_supply r8.1.supply.length c18_0_supply, .slice A18_0_demand r8.1.demand.length c18_0_demand, .slice A18_0_cost r8.1.cost.length c18_0_cost] Tk25 rfl (H.blk 0 rfl).cells rfl rfl) ?_
        refine LW.go rfl rfl (OW.call Tc30 rfl (ref07_Same_ok (a0 := r1.1) (a1 := r8.1) (H.own 5 rfl).sl (H.own 6 rfl).sl (H.tab 7 rfl).sl2 (H.own 1 rfl).sl (H.own 2 rfl).sl (H.tab 3 rfl).sl2 hr9) ?_)
        rintro _ w15 ⟨rfl, E10⟩
        refine ⟨_, rfl, ?_⟩
        replace H := H.grow E10
        replace R0 := H.ext
        refine LW.pure rfl rfl (RV.not rfl) ?_
        refine LW.pure rfl rfl (RV.move rfl) ?_
        refine LW.noB rfl rfl rfl rfl (ne_beq (v := true) (not_t hq7) rfl) ?_
        refine LW.noB rfl rfl rfl rfl (ne_beq (v := true) (not_t hq7) rfl) ?_
        refine LW.noB rfl rfl rfl rfl (ne_beq (v := true) (not_t hq7) rfl) ?_
        refine LW.pure rfl rfl (RV.pickTB rfl (not_t hq7) rfl) ?_
        replace H := H.pick (L' := [.own A16_0_supply c16_0_supply 3 1 (List.map encN r1.1.supply), .own A16_0_demand c16_0_demand 3 1 (List.map encN r1.1.demand), .tab A16_0_cost c16_0_cost 22 hs16_0_cost 3 1 (encM encN r1.1.cost), .blk b1 25 [.slice A_a0_supply a0.supply.length c_a0_supply, .slice A_a0_demand a0.demand.length c_a0_demand, .slice A_a0_cost a0.cost.length c_a0_cost], .blk b2 25 [.slice A16_0_supply r1.1.supply.length c16_0_supply, .slice A16_0_demand r1.1.demand.length c16_0_demand, .slice A16_0_cost r1.1.cost.length c16_0_cost]]) [5, 6, 7, 8, 4] (by decide) rfl
        replace R0 := H.ext
        refine LW.nil (jK30 _ _ ⟨_, ?_, ⟨true, F, rfl, H⟩⟩)
        exact ⟨rfl, rfl, rfl, rfl, rfl, trivial⟩
end Go.D7

namespace Go.Tb
/-- A loop over 0 .. N - 1 with a state, that is left at the first i for which p does not hold. -/
theorem scan_loop {S R : Type} (N : Nat) (p : Nat → Bool) (g : Nat → S) (L : Nat → S → Int → Option R) (yes : Option R) (no : Nat → Option R)
    (step : ∀ n i : Nat, i < N → L (n + 1) (g i) (i : Int) = if p i = true then L n (g (i + 1)) ((i + 1 : Nat) : Int) else no i)
    (stop : ∀ n : Nat, L (n + 1) (g N) (N : Int) = yes) : ∀ (d n i : Nat), N = i + d → d < n → L n (g i) (i : Int) = match (List.range' i d).find? (fun j => !p j) with | none => yes | some j => no j
  | 0, n + 1, i, hd, hn => by
    have hi : i = N := by omega
    subst hi
    rw [stop n]; rfl
  | d + 1, n + 1, i, hd, hn => by
    rw [step n i (by omega), List.range'_succ, List.find?_cons]
    cases hp : p i
    · simp
    · simp only [if_true, Bool.not_true]
      exact scan_loop N p g L yes no step stop d n (i + 1) (by omega) (by omega)
theorem find_all {p : Nat → Bool} {i d : Nat} : (List.range' i d).find? (fun j => !p j) = none ↔ ∀ j, i ≤ j → j < i + d → p j = true := by
  rw [List.find?_eq_none]
  constructor
  · intro h j h1 h2
    have := h j (by rw [List.mem_range'_1]; omega)
    simpa using this
  · intro h x hx
    rw [List.mem_range'_1] at hx
    simp [h x hx.1 hx.2]
/-- A loop over 0 .. N - 1 with a state and no way out. -/
theorem for_loop {S R : Type} (N : Nat) (g : Nat → S) (L : Nat → S → Int → Option R) (yes : Option R)
    (step : ∀ n i : Nat, i < N → L (n + 1) (g i) (i : Int) = L n (g (i + 1)) ((i + 1 : Nat) : Int))
    (stop : ∀ n : Nat, L (n + 1) (g N) (N : Int) = yes) : ∀ (d n i : Nat), N = i + d → d < n → L n (g i) (i : Int) = yes
  | 0, n + 1, i, hd, hn => by
    have hi : i = N := by omega
    subst hi
    exact stop n
  | d + 1, n + 1, i, hd, hn => by
    rw [step n i (by omega)]
    exact for_loop N g L yes step stop d n (i + 1) (by omega) (by omega)
theorem for_loop0 {S R : Type} (N : Nat) (g : Nat → S) (L : Nat → S → Int → Option R) (yes : Option R)
    (step : ∀ n i : Nat, i < N → L (n + 1) (g i) (i : Int) = L n (g (i + 1)) ((i + 1 : Nat) : Int))
    (stop : ∀ n : Nat, L (n + 1) (g N) (N : Int) = yes) (hN : N ≤ 9223372036854775807) : L FU (g 0) 0 = yes :=
  for_loop N g L yes step stop N FU 0 (by omega) (by have := FU_pos; omega)
theorem scan_loop0 {S R : Type} (N : Nat) (p : Nat → Bool) (g : Nat → S) (L : Nat → S → Int → Option R) (yes no : Option R)
    (step : ∀ n i : Nat, i < N → L (n + 1) (g i) (i : Int) = if p i = true then L n (g (i + 1)) ((i + 1 : Nat) : Int) else no)
    (stop : ∀ n : Nat, L (n + 1) (g N) (N : Int) = yes) (hN : N ≤ 9223372036854775807) : L FU (g 0) 0 = if (∀ j, j < N → p j = true) then yes else no := by
  have h := scan_loop N p g L yes (fun _ => no) step stop N FU 0 (by omega) (by have := FU_pos; omega)
  refine Eq.trans h ?_
  cases hf : (List.range' 0 N).find? (fun j => !p j) with
  | none => rw [if_pos (fun j hj => find_all.1 hf j (by omega) (by omega))]
  | some j =>
    have h1 := List.find?_some hf
    have h2 := List.mem_of_find?_eq_some hf
    rw [List.mem_range'_1] at h2
    rw [if_neg]
    intro hall
    have := hall j (by omega)
    simp [this] at h1
/-- The same over the elements of a list. -/
theorem list_loop0 {α R : Type} (l : List α) (p : α → Bool) (L : Nat → Int → Option R) (yes no : Option R)
    (step : ∀ (n i : Nat) (x : α), l[i]? = some x → L (n + 1) (i : Int) = if p x = true then L n ((i + 1 : Nat) : Int) else no)
    (stop : ∀ n : Nat, L (n + 1) (l.length : Int) = yes) (hl : l.length ≤ 9223372036854775807) : L FU 0 = if l.all p = true then yes else no := by
  have h := scan_loop0 l.length (fun i => (l[i]?.map p).getD true) (fun _ => ()) (fun n _ i => L n i) yes no (fun n i hi => by
    have hx : l[i]? = some l[i] := by simp [hi]
    rw [step n i _ hx]; simp [hx]) stop hl
  refine Eq.trans h ?_
  by_cases ha : l.all p = true
  · rw [if_pos ha, if_pos]
    intro j hj
    have := List.all_eq_true.1 ha l[j] (List.getElem_mem hj)
    simp [hj, this]
  · rw [if_neg ha, if_neg]
    intro hc
    refine ha (List.all_eq_true.2 fun x hx => ?_)
    obtain ⟨j, hj⟩ := List.getElem?_of_mem hx
    have := hc j (lt_of_at hj)
    simpa [hj] using this
end Go.Tb

set_option linter.unusedVariables false
set_option linter.unusedSimpArgs false
namespace Go.D7
open Go.Tb
theorem ix0 {α β : Type} {l : List α} {k : α → Option β} {x : α} (h : l[0]? = some x) : ix l 0 k = k x := ix_nat (i := 0) h
theorem for0 {S R : Type} (N : Nat) (g : Nat → S) (L : Nat → S → Int → Option R) (yes : Option R) {s0 : S} (h0 : g 0 = s0)
    (step : ∀ n i : Nat, i < N → L (n + 1) (g i) (i : Int) = L n (g (i + 1)) ((i + 1 : Nat) : Int))
    (stop : ∀ n : Nat, L (n + 1) (g N) (N : Int) = yes) (hN : N ≤ 9223372036854775807) : L FU s0 0 = yes := by
  rw [← h0]; exact for_loop0 N g L yes step stop hN
def gi (l : List Int) (i : Nat) : Int := l.getD i 0
theorem gi_at {l : List Int} {i : Nat} (h : i < l.length) : l[i]? = some (gi l i) := by simp [gi, List.getD, h]
theorem gi_of {l : List Int} {i : Nat} {x : Int} (h : l[i]? = some x) : gi l i = x := by simp [gi, List.getD, h]
def gr (l : List (List Int)) (i : Nat) : List Int := l.getD i []
theorem gr_at {l : List (List Int)} {i : Nat} (h : i < l.length) : l[i]? = some (gr l i) := by simp [gr, List.getD, h]
theorem gr_of {l : List (List Int)} {i : Nat} {x : List Int} (h : l[i]? = some x) : gr l i = x := by simp [gr, List.getD, h]
def within (n lo hi : Int) : Bool := decide (lo ≤ n) && decide (n ≤ hi)
theorem within_iff {n lo hi : Int} : within n lo hi = true ↔ lo ≤ n ∧ n ≤ hi := by unfold within; simp
theorem bwithin_eq (n lo hi : Int) : bulk_within n lo hi = some (within n lo hi) := by
  unfold bulk_within within
  by_cases h : lo ≤ n <;> simp [h]
theorem rwithin_eq (n lo hi : Int) : ref07_within n lo hi = some (within n lo hi) := by
  unfold ref07_within within
  by_cases h : lo ≤ n <;> simp [h]
theorem sane_eq : law07_sane = some true := by decide +kernel
def tot : List Int → Int
  | [] => 0
  | x :: r => x + tot r
theorem tot_append : ∀ a b : List Int, tot (a ++ b) = tot a + tot b
  | [], b => by simp [tot]
  | x :: a, b => by simp only [List.cons_append, tot, tot_append a b]; omega
theorem tot_take {l : List Int} {i : Nat} (h : i < l.length) : tot (l.take (i + 1)) = tot (l.take i) + gi l i := by
  rw [List.take_add_one, gi_at h, tot_append]
  simp [tot]
theorem tot_bnd {M : Int} (hM : 0 ≤ M) : ∀ l : List Int, (∀ x ∈ l, 0 ≤ x ∧ x ≤ M) → 0 ≤ tot l ∧ tot l ≤ M * (l.length : Int)
  | [], _ => by simp [tot]
  | x :: r, h => by
    have ih := tot_bnd hM r (fun y hy => h y (List.mem_cons_of_mem _ hy))
    have hx := h x (List.mem_cons_self ..)
    have e : ((List.length (x :: r) : Nat) : Int) = (r.length : Int) + 1 := by simp
    rw [e, Int.mul_add]
    simp only [tot]
    omega
theorem total_eq {M : Int} (hM : 0 ≤ M ∧ M ≤ 1000) {l : List Int} (hl : l.length ≤ 1000) (h : ∀ x ∈ l, 0 ≤ x ∧ x ≤ M) : bulk_total l = some (tot l) := by
  unfold bulk_total
  refine Eq.trans (for0 l.length (fun i => tot (l.take i)) (fun k s i => bulk_total_L1 l k s i) (some (tot l)) rfl (fun k i hi => ?_) (fun k => ?_) (by omega)) rfl
  · have hb := tot_bnd hM.1 (l.take i) (fun x hx => h x (List.mem_of_mem_take hx))
    have hx := h _ (List.mem_of_getElem? (gi_at hi))
    have hlt : ((l.take i).length : Int) ≤ 1000 := by rw [List.length_take]; omega
    have h2 : M * ((l.take i).length : Int) ≤ 1000 * 1000 := Int.le_trans (Int.mul_le_mul_of_nonneg_right hM.2 (Int.natCast_nonneg _)) (Int.mul_le_mul_of_nonneg_left hlt (by decide))
    show bulk_total_B1 l (bulk_total_L1 l k) _ _ = _
    unfold bulk_total_B1
    rw [if_pos (by omega), ix_nat (gi_at hi), gd_pos (by omega), gd_pos (by omega), tot_take hi]; rfl
  · show bulk_total_B1 l (bulk_total_L1 l k) _ _ = _
    unfold bulk_total_B1
    rw [if_neg (by omega), List.take_length]; rfl
theorem rsum_eq {M : Int} (hM : 0 ≤ M ∧ M ≤ 1000) {l : List Int} (hl : l.length ≤ 1000) (h : ∀ x ∈ l, 0 ≤ x ∧ x ≤ M) : ref07_sum l = some (tot l) := by
  unfold ref07_sum
  refine Eq.trans (for0 l.length (fun i => tot (l.take i)) (fun k s i => ref07_sum_L1 l k s i) (some (tot l)) rfl (fun k i hi => ?_) (fun k => ?_) (by omega)) rfl
  · have hb := tot_bnd hM.1 (l.take i) (fun x hx => h x (List.mem_of_mem_take hx))
    have hx := h _ (List.mem_of_getElem? (gi_at hi))
    have hlt : ((l.take i).length : Int) ≤ 1000 := by rw [List.length_take]; omega
    have h2 : M * ((l.take i).length : Int) ≤ 1000 * 1000 := Int.le_trans (Int.mul_le_mul_of_nonneg_right hM.2 (Int.natCast_nonneg _)) (Int.mul_le_mul_of_nonneg_left hlt (by decide))
    show ref07_sum_B1 l (ref07_sum_L1 l k) _ _ = _
    unfold ref07_sum_B1
    rw [if_pos (by omega), ix_nat (gi_at hi), gd_pos (by omega), gd_pos (by omega), tot_take hi]; rfl
  · show ref07_sum_B1 l (ref07_sum_L1 l k) _ _ = _
    unfold ref07_sum_B1
    rw [if_neg (by omega), List.take_length]; rfl
theorem indexF_eq {l : List Int} {f : Int → Option Bool} {p : Int → Bool} (hf : ∀ x, f x = some (p x)) (hl : l.length ≤ 1000) : ∀ (suf pre : List Int) (k : Nat), l = pre ++ suf → suf.length < k → ∃ i : Int, slices_IndexFunc_int_L1 l f k (pre.length : Int) = some i ∧ (0 ≤ i ↔ suf.any p = true)
  | [], pre, k + 1, h, hk => by
    refine ⟨-1, ?_, by simp⟩
    show slices_IndexFunc_int_B1 l f (slices_IndexFunc_int_L1 l f k) _ = _
    unfold slices_IndexFunc_int_B1
    rw [if_neg (by rw [h]; simp)]; rfl
  | y :: r, pre, k + 1, h, hk => by
    have hy : l[pre.length]? = some y := by rw [h, List.getElem?_append_right (Nat.le_refl _)]; simp
    have := lt_of_at hy
    obtain ⟨i, h1, h2⟩ := indexF_eq hf hl r (pre ++ [y]) k (by rw [h]; simp) (by simp at hk; omega)
    have e : slices_IndexFunc_int_L1 l f (k + 1) (pre.length : Int) = slices_IndexFunc_int_B1 l f (slices_IndexFunc_int_L1 l f k) (pre.length : Int) := rfl
    rw [e]
    unfold slices_IndexFunc_int_B1
    rw [if_pos (by omega), ix_nat hy, bnd_eq (hf y)]
    by_cases hp : p y = true
    · rw [if_pos hp]
      exact ⟨_, rfl, by simp [hp]⟩
    · rw [if_neg hp, gd_pos (by omega)]
      rw [show (((pre ++ [y]).length : Nat) : Int) = (pre.length : Int) + 1 by simp] at h1
      exact ⟨i, h1, by rw [h2]; simp [hp]⟩
theorem containsF_eq {l : List Int} {f : Int → Option Bool} {p : Int → Bool} (hf : ∀ x, f x = some (p x)) (hl : l.length ≤ 1000) : slices_ContainsFunc_int l f = some (l.any p) := by
  obtain ⟨i, h1, h2⟩ := indexF_eq hf hl l [] FU rfl (by have := FU_pos; omega)
  unfold slices_ContainsFunc_int slices_IndexFunc_int
  have h1' : slices_IndexFunc_int_L1 l f FU 0 = some i := h1
  rw [bnd_eq h1']
  congr 1
  by_cases h : l.any p = true
  · rw [decide_eq_true (h2.2 h), h]
  · rw [decide_eq_false (fun hc => h (h2.1 hc))]; simpa using h
theorem any_not {α : Type} (l : List α) (p : α → Bool) : (!(l.any (fun x => !p x))) = l.all p := by
  induction l with
  | nil => rfl
  | cons x r ih => simp only [List.any_cons, List.all_cons, Bool.not_or, Bool.not_not, ih]
def amtB (l : List Int) : Bool := (decide (1 ≤ l.length) && decide (l.length ≤ 4)) && l.all (fun x => within x 0 30)
def rowB (n : Nat) (most : Int) (row : List Int) : Bool := decide (row.length = n) && row.all (fun x => within x 0 most)
def tabB (t : Trade) (l : List (List Int)) (most : Int) : Bool := decide (l.length = t.supply.length) && l.all (rowB t.demand.length most)
def okT (t : Trade) : Bool := amtB t.supply && amtB t.demand && decide (tot t.supply = tot t.demand) && tabB t t.cost 99
def validate (t : Trade) : Int := if okT t = true then 0 else 1
theorem amounts_eq {l : List Int} (hl : l.length ≤ 1000) : bulk_amounts l = some (amtB l) := by
  unfold bulk_amounts amtB
  rw [bnd_eq (bwithin_eq _ _ _)]
  have e : within (l.length : Int) 1 4 = (decide (1 ≤ l.length) && decide (l.length ≤ 4)) := by
    rw [Bool.eq_iff_iff, within_iff]; simp; omega
  rw [e]
  cases (decide (1 ≤ l.length) && decide (l.length ≤ 4))
  · rfl
  · rw [if_pos rfl, bnd_eq (containsF_eq (p := fun x => !within x 0 30) (fun x => by unfold bulk_amounts_1; rw [bnd_eq (bwithin_eq _ _ _)]) hl), any_not]; rfl
theorem ramounts_eq {l : List Int} (hl : l.length ≤ 1000) : ref07_amounts l = some (amtB l) := by
  unfold ref07_amounts amtB
  have e : within (l.length : Int) 1 4 = (decide (1 ≤ l.length) && decide (l.length ≤ 4)) := by
    rw [Bool.eq_iff_iff, within_iff]; simp; omega
  rw [list_loop0 l (fun x => within x 0 30) (ref07_amounts_L1 l) (some (decide (1 ≤ l.length) && decide (l.length ≤ 4))) (some false) (fun k i x hx => ?_) (fun k => ?_) (by omega)]
  · cases l.all (fun x => within x 0 30) <;> simp
  · have := lt_of_at hx
    show ref07_amounts_B1 l (ref07_amounts_L1 l k) _ = _
    unfold ref07_amounts_B1
    rw [if_pos (by omega), ix_nat hx, bnd_eq (rwithin_eq _ _ _)]
    by_cases h : within x 0 30 = true
    · rw [if_pos h, gd_pos (by omega), if_pos h]; rfl
    · rw [if_neg h, if_neg h]
  · show ref07_amounts_B1 l (ref07_amounts_L1 l k) _ = _
    unfold ref07_amounts_B1 ref07_amounts_k1
    rw [if_neg (by omega), bnd_eq (rwithin_eq _ _ _), e]
def Tsmall (t : Trade) : Prop := t.supply.length ≤ 50 ∧ t.demand.length ≤ 50 ∧ t.cost.length ≤ 50 ∧ ∀ r ∈ t.cost, r.length ≤ 50
def Lsmall (l : List (List Int)) : Prop := l.length ≤ 50 ∧ ∀ r ∈ l, r.length ≤ 50
theorem table_eq {t : Trade} (ht : t.supply.length ≤ 1000 ∧ t.demand.length ≤ 1000) {l : List (List Int)} (hl : Lsmall l) (most : Int) : bulk_table t l most = some (tabB t l most) := by
  unfold bulk_table tabB
  have hl1 := hl.1
  by_cases h : l.length = t.supply.length
  · rw [if_pos (by omega), decide_eq_true h, Bool.true_and, list_loop0 l (rowB t.demand.length most) (bulk_table_L1 t l most) (some true) (some false) (fun k i x hx => ?_) (fun k => ?_) (by omega)]
    · cases l.all (rowB t.demand.length most) <;> rfl
    · have := lt_of_at hx
      have hx50 := hl.2 x (List.mem_of_getElem? hx)
      show bulk_table_B1 t l most (bulk_table_L1 t l most k) _ = _
      unfold bulk_table_B1 bulk_table_k2 rowB
      rw [if_pos (by omega), ix_nat hx]
      by_cases hr : x.length = t.demand.length
      · rw [if_pos (by omega), bnd_eq (containsF_eq (p := fun y => !within y 0 most) (fun y => by unfold bulk_table_1; rw [bnd_eq (bwithin_eq _ _ _)]) (by omega)), decide_eq_true hr, Bool.true_and, ← any_not]
        cases x.any (fun y => !within y 0 most)
        · rw [if_neg (by simp), gd_pos (by omega), if_pos (by rfl)]; rfl
        · rw [if_pos rfl, if_neg (by simp)]
      · rw [if_neg (by omega), if_pos rfl, decide_eq_false hr, if_neg (by simp)]
    · show bulk_table_B1 t l most (bulk_table_L1 t l most k) _ = _
      unfold bulk_table_B1
      rw [if_neg (by omega)]; rfl
  · rw [if_neg (by omega), decide_eq_false h]; rfl
theorem rtable_eq {t : Trade} (ht : t.supply.length ≤ 1000 ∧ t.demand.length ≤ 1000) {l : List (List Int)} (hl : Lsmall l) (most : Int) : ref07_table t l most = some (tabB t l most) := by
  unfold ref07_table tabB
  have hl1 := hl.1
  by_cases h : l.length = t.supply.length
  · rw [if_pos (by omega), decide_eq_true h, Bool.true_and, list_loop0 l (rowB t.demand.length most) (ref07_table_L2 t l most) (some true) (some false) (fun k i x hx => ?_) (fun k => ?_) (by omega)]
    · cases l.all (rowB t.demand.length most) <;> rfl
    · have := lt_of_at hx
      have hx50 := hl.2 x (List.mem_of_getElem? hx)
      show ref07_table_B2 t l most (ref07_table_L2 t l most k) _ = _
      unfold ref07_table_B2 rowB
      rw [if_pos (by omega), ix_nat hx]
      by_cases hr : x.length = t.demand.length
      · rw [if_pos (by omega), decide_eq_true hr, Bool.true_and, list_loop0 x (fun y => within y 0 most) (ref07_table_L1 l most (i : Int) (ref07_table_L2 t l most k)) (ref07_table_L2 t l most k ((i + 1 : Nat) : Int)) (some false) (fun q j y hy => ?_) (fun q => ?_) (by omega)]
        · have := lt_of_at hy
          show ref07_table_B1 l most (i : Int) (ref07_table_L2 t l most k) (ref07_table_L1 l most (i : Int) (ref07_table_L2 t l most k) q) _ = _
          unfold ref07_table_B1
          rw [ix_nat hx, if_pos (by omega), ix_nat hx, ix_nat hy, bnd_eq (rwithin_eq _ _ _)]
          by_cases hw : within y 0 most = true
          · rw [if_pos hw, gd_pos (by omega), if_pos hw]; rfl
          · rw [if_neg hw, if_neg hw]
        · show ref07_table_B1 l most (i : Int) (ref07_table_L2 t l most k) (ref07_table_L1 l most (i : Int) (ref07_table_L2 t l most k) q) _ = _
          unfold ref07_table_B1 ref07_table_k2
          rw [ix_nat hx, if_neg (by omega), gd_pos (by omega)]; rfl
      · rw [if_neg (by omega), decide_eq_false hr, if_neg (by simp)]
    · show ref07_table_B2 t l most (ref07_table_L2 t l most k) _ = _
      unfold ref07_table_B2
      rw [if_neg (by omega)]; rfl
  · rw [if_neg (by omega), decide_eq_false h]; rfl
theorem amt_mem {l : List Int} (h : amtB l = true) : 1 ≤ l.length ∧ l.length ≤ 4 ∧ ∀ x ∈ l, 0 ≤ x ∧ x ≤ 30 := by
  unfold amtB at h
  simp only [Bool.and_eq_true, decide_eq_true_eq, List.all_eq_true, within_iff] at h
  exact ⟨h.1.1, h.1.2, h.2⟩
theorem Validate_eq {t : Trade} (ht : Tsmall t) : bulk_Validate t = some (validate t) := by
  obtain ⟨h1, h2, h3, h4⟩ := ht
  unfold bulk_Validate validate okT bulk_Validate_k1
  rw [bnd_eq (amounts_eq (by omega))]
  cases ha : amtB t.supply
  · rw [if_neg (by simp), if_pos rfl]; rfl
  · rw [if_pos rfl, bnd_eq (amounts_eq (by omega))]
    cases hb : amtB t.demand
    · rw [if_neg (by simp), if_pos rfl]; rfl
    · have m1 := amt_mem ha
      have m2 := amt_mem hb
      rw [if_pos rfl, bnd_eq (total_eq (M := 30) (by decide) (by omega) m1.2.2), bnd_eq (total_eq (M := 30) (by decide) (by omega) m2.2.2)]
      by_cases he : tot t.supply = tot t.demand
      · rw [if_pos he, bnd_eq (table_eq ⟨by omega, by omega⟩ ⟨h3, h4⟩ _), decide_eq_true he]
        cases tabB t t.cost 99 <;> rfl
      · rw [if_neg he, if_pos rfl, decide_eq_false he]; rfl
theorem rValidate_eq {t : Trade} (ht : Tsmall t) : ref07_Validate t = some (validate t) := by
  obtain ⟨h1, h2, h3, h4⟩ := ht
  unfold ref07_Validate validate okT ref07_Validate_k1
  rw [bnd_eq (ramounts_eq (by omega))]
  cases ha : amtB t.supply
  · rw [if_neg (by simp), if_pos rfl]; rfl
  · rw [if_pos rfl, bnd_eq (ramounts_eq (by omega))]
    cases hb : amtB t.demand
    · rw [if_neg (by simp), if_pos rfl]; rfl
    · have m1 := amt_mem ha
      have m2 := amt_mem hb
      rw [if_pos rfl, bnd_eq (rsum_eq (M := 30) (by decide) (by omega) m1.2.2), bnd_eq (rsum_eq (M := 30) (by decide) (by omega) m2.2.2)]
      by_cases he : tot t.supply = tot t.demand
      · rw [if_pos he, bnd_eq (rtable_eq ⟨by omega, by omega⟩ ⟨h3, h4⟩ _), decide_eq_true he]
        cases tabB t t.cost 99 <;> rfl
      · rw [if_neg he, if_pos rfl, decide_eq_false he]; rfl
end Go.D7

set_option linter.unusedVariables false
set_option linter.unusedSimpArgs false
namespace Go.D7
open Go.Tb
def sumN : Nat → (Nat → Int) → Int
  | 0, _ => 0
  | n + 1, f => sumN n f + f n
theorem sumN_congr {f g : Nat → Int} : ∀ n, (∀ i, i < n → f i = g i) → sumN n f = sumN n g
  | 0, _ => rfl
  | n + 1, h => by simp only [sumN, sumN_congr n (fun i hi => h i (by omega)), h n (by omega)]
theorem sumN_bnd {M : Int} {f : Nat → Int} : ∀ n, (∀ i, i < n → 0 ≤ f i ∧ f i ≤ M) → 0 ≤ sumN n f ∧ sumN n f ≤ M * (n : Int)
  | 0, _ => by simp [sumN]
  | n + 1, h => by
    have ih := sumN_bnd n (fun i hi => h i (by omega))
    have hn := h n (by omega)
    rw [show ((n + 1 : Nat) : Int) = (n : Int) + 1 by omega, Int.mul_add]
    simp only [sumN]; omega
theorem sumN_add (f g : Nat → Int) : ∀ n, sumN n (fun i => f i + g i) = sumN n f + sumN n g
  | 0 => rfl
  | n + 1 => by simp only [sumN, sumN_add f g n]; omega
theorem sumN_mul (c : Int) (f : Nat → Int) : ∀ n, sumN n (fun i => c * f i) = c * sumN n f
  | 0 => by simp [sumN]
  | n + 1 => by simp only [sumN, sumN_mul c f n, Int.mul_add]
theorem sumN_zero : ∀ n, sumN n (fun _ => 0) = 0
  | 0 => rfl
  | n + 1 => by simp only [sumN, sumN_zero n]; rfl
theorem sumN_swap (f : Nat → Nat → Int) (m : Nat) : ∀ n, sumN n (fun i => sumN m (fun j => f i j)) = sumN m (fun j => sumN n (fun i => f i j))
  | 0 => by simp only [sumN]; rw [sumN_zero]
  | n + 1 => by simp only [sumN, sumN_swap f m n, sumN_add]
theorem sumN_le {f g : Nat → Int} : ∀ n, (∀ i, i < n → f i ≤ g i) → sumN n f ≤ sumN n g
  | 0, _ => Int.le_refl _
  | n + 1, h => by
    have ih := sumN_le n (fun i hi => h i (by omega))
    have hn := h n (by omega)
    simp only [sumN]; omega
theorem tot_sumN (l : List Int) : tot l = sumN l.length (gi l) := by
  have key : ∀ i, i ≤ l.length → tot (l.take i) = sumN i (gi l) := by
    intro i
    induction i with
    | zero => intro _; rfl
    | succ i ih => intro h; rw [tot_take (by omega), ih (by omega)]; rfl
  have := key l.length (Nat.le_refl _)
  rwa [List.take_length] at this
def tb (m : Nat) (f : Nat → Int) : List Int := (List.range m).map f
theorem tb_len (m : Nat) (f : Nat → Int) : (tb m f).length = m := by unfold tb; simp
theorem tb_at {m : Nat} {f : Nat → Int} {k : Nat} (h : k < m) : (tb m f)[k]? = some (f k) := by unfold tb; simp [h]
theorem tb_gi {m : Nat} {f : Nat → Int} {k : Nat} (h : k < m) : gi (tb m f) k = f k := gi_of (tb_at h)
theorem tb_congr {m : Nat} {f g : Nat → Int} (h : ∀ k, k < m → f k = g k) : tb m f = tb m g := by
  unfold tb
  apply List.map_congr_left
  intro k hk
  exact h k (List.mem_range.1 hk)
theorem tb_set {m : Nat} {f : Nat → Int} {k : Nat} (v : Int) : (tb m f).set k v = tb m (fun j => if j = k then v else f j) := by
  apply List.ext_getElem?
  intro j
  rw [List.getElem?_set]
  unfold tb
  by_cases hj : j < m
  · by_cases hk : k = j
    · subst hk; simp [hj]
    · rw [if_neg hk]
      simp only [List.getElem?_map, List.getElem?_range hj, Option.map_some]
      rw [if_neg (fun e => hk e.symm)]
  · have h1 : (List.range m)[j]? = none := by rw [List.getElem?_eq_none]; simpa using hj
    simp only [List.getElem?_map, h1, Option.map_none]
    by_cases hk : k = j
    · subst hk; simp [hj]
    · rw [if_neg hk]
theorem tb_self (l : List Int) : tb l.length (gi l) = l := by
  apply List.ext_getElem?
  intro j
  by_cases hj : j < l.length
  · rw [tb_at hj, gi_at hj]
  · rw [List.getElem?_eq_none (by rw [tb_len]; omega), List.getElem?_eq_none (by omega)]
theorem rep_tb (m : Nat) : List.replicate m (0 : Int) = tb m (fun _ => 0) := by
  unfold tb
  induction m with
  | zero => rfl
  | succ m ih => rw [List.replicate_succ', ih, List.range_succ, List.map_append]; rfl
def cell (l : List (List Int)) (i j : Nat) : Int := gi (gr l i) j
def col (l : List (List Int)) (i j : Nat) : Int := sumN i (fun q => cell l q j)
def rowsB (t : Trade) (l : List (List Int)) (i : Nat) : Bool := decide (tot (gr l i) = gi t.supply i)
def checkPlan (t : Trade) (l : List (List Int)) : Int :=
  if okT t = true then (if tabB t l 120 = true then (if (∀ i, i < l.length → rowsB t l i = true) then (if tb t.demand.length (col l l.length) = t.demand then 0 else 6) else 6) else 1) else 1
theorem tab_spec {t : Trade} {l : List (List Int)} {most : Int} (h : tabB t l most = true) : l.length = t.supply.length ∧ ∀ i, i < l.length → (gr l i).length = t.demand.length ∧ (∀ x ∈ gr l i, 0 ≤ x ∧ x ≤ most) ∧ ∀ j, j < t.demand.length → 0 ≤ cell l i j ∧ cell l i j ≤ most := by
  unfold tabB at h
  simp only [Bool.and_eq_true, decide_eq_true_eq, List.all_eq_true] at h
  refine ⟨h.1, fun i hi => ?_⟩
  have hm := h.2 (gr l i) (List.mem_of_getElem? (gr_at hi))
  unfold rowB at hm
  simp only [Bool.and_eq_true, decide_eq_true_eq, List.all_eq_true, within_iff] at hm
  exact ⟨hm.1, hm.2, fun j hj => hm.2 _ (List.mem_of_getElem? (gi_at (by omega)))⟩
theorem okT_spec {t : Trade} (h : okT t = true) : (1 ≤ t.supply.length ∧ t.supply.length ≤ 4 ∧ ∀ x ∈ t.supply, 0 ≤ x ∧ x ≤ 30) ∧ (1 ≤ t.demand.length ∧ t.demand.length ≤ 4 ∧ ∀ x ∈ t.demand, 0 ≤ x ∧ x ≤ 30) ∧ tot t.supply = tot t.demand ∧ tabB t t.cost 99 = true := by
  unfold okT at h
  simp only [Bool.and_eq_true, decide_eq_true_eq] at h
  exact ⟨amt_mem h.1.1.1, amt_mem h.1.1.2, h.1.2, h.2⟩
section
variable {t : Trade} {l : List (List Int)}
def rowCost (t : Trade) (l : List (List Int)) (i j : Nat) : Int := sumN j (fun q => cell l i q * cell t.cost i q)
def costN (t : Trade) (l : List (List Int)) (i : Nat) : Int := sumN i (fun q => rowCost t l q t.demand.length)
theorem mul_bnd {x y X Y : Int} (hx : 0 ≤ x ∧ x ≤ X) (hy : 0 ≤ y ∧ y ≤ Y) : 0 ≤ x * y ∧ x * y ≤ X * Y :=
  ⟨Int.mul_nonneg hx.1 hy.1, Int.le_trans (Int.mul_le_mul_of_nonneg_right hx.2 hy.1) (Int.mul_le_mul_of_nonneg_left hy.2 (by omega))⟩
theorem cell_cost (hv : okT t = true) (h : tabB t l 120 = true) {i j : Nat} (hi : i < l.length) (hj : j < t.demand.length) : 0 ≤ cell l i j * cell t.cost i j ∧ cell l i j * cell t.cost i j ≤ 11880 := by
  have h1 := tab_spec h
  have h2 := tab_spec (okT_spec hv).2.2.2
  exact mul_bnd (X := 120) (Y := 99) ((h1.2 i hi).2.2 j hj) ((h2.2 i (by omega)).2.2 j hj)
theorem rowCost_bnd (hv : okT t = true) (h : tabB t l 120 = true) {i j : Nat} (hi : i < l.length) (hj : j ≤ t.demand.length) : 0 ≤ rowCost t l i j ∧ rowCost t l i j ≤ 11880 * (j : Int) :=
  sumN_bnd j (fun q hq => cell_cost hv h hi (by omega))
theorem costN_bnd (hv : okT t = true) (h : tabB t l 120 = true) {i : Nat} (hi : i ≤ l.length) : 0 ≤ costN t l i ∧ costN t l i ≤ 47520 * (i : Int) := by
  have hd := (okT_spec hv).2.1.2.1
  exact sumN_bnd i (fun q hq => by have := rowCost_bnd hv h (i := q) (by omega) (Nat.le_refl _); omega)
theorem cost_in (hv : okT t = true) (h : tabB t l 120 = true) {i : Nat} (hi : i < l.length) (rec1 : Int → Int → Option Int) : bulk_cost_L1 t (i : Int) rec1 (gr l i) FU (costN t l i) 0 = bulk_cost_k2 (i : Int) rec1 (costN t l (i + 1)) := by
  obtain ⟨h1, h2⟩ := tab_spec h
  obtain ⟨c1, c2⟩ := tab_spec (okT_spec hv).2.2.2
  have hd := (okT_spec hv).2.1.2.1
  have hs := (okT_spec hv).1.2.1
  have hr := h2 i hi
  have hc := c2 i (by omega)
  have hb := costN_bnd hv h (i := i) (by omega)
  refine for0 t.demand.length (fun j => costN t l i + rowCost t l i j) (fun k s q => bulk_cost_L1 t (i : Int) rec1 (gr l i) k s q) _ (by simp [rowCost, sumN]) (fun k q hq => ?_) (fun k => ?_) (by omega)
  · have hx : (gr l i)[q]? = some (cell l i q) := gi_at (by omega)
    have hy : (gr t.cost i)[q]? = some (cell t.cost i q) := gi_at (by omega)
    have b1 := rowCost_bnd hv h hi (j := q) (by omega)
    have b2 := cell_cost hv h hi hq
    show bulk_cost_B1 t (i : Int) rec1 (gr l i) (bulk_cost_L1 t (i : Int) rec1 (gr l i) k) _ _ = _
    unfold bulk_cost_B1
    rw [if_pos (by omega), ix_nat hx, ix_nat (gr_at (by omega)), ix_nat hy, gd_pos (by omega), gd_pos (by omega), gd_pos (by omega), Int.add_assoc]; rfl
  · show bulk_cost_B1 t (i : Int) rec1 (gr l i) (bulk_cost_L1 t (i : Int) rec1 (gr l i) k) _ _ = _
    unfold bulk_cost_B1
    rw [if_neg (by omega)]; rfl
theorem cost_eq (hv : okT t = true) (h : tabB t l 120 = true) : bulk_cost t l = some (costN t l l.length) := by
  obtain ⟨h1, h2⟩ := tab_spec h
  have hs := (okT_spec hv).1.2.1
  unfold bulk_cost
  refine for0 l.length (costN t l) (fun k s i => bulk_cost_L2 t l k s i) _ rfl (fun k i hi => ?_) (fun k => ?_) (by omega)
  · show bulk_cost_B2 t l (bulk_cost_L2 t l k) _ _ = _
    unfold bulk_cost_B2
    rw [if_pos (by omega), ix_nat (gr_at hi), cost_in hv h hi]
    unfold bulk_cost_k2
    rw [gd_pos (by omega)]; rfl
  · show bulk_cost_B2 t l (bulk_cost_L2 t l k) _ _ = _
    unfold bulk_cost_B2
    rw [if_neg (by omega)]; rfl
theorem rcost_in (hv : okT t = true) (h : tabB t l 120 = true) {i : Nat} (hi : i < l.length) (rec1 : Int → Int → Option Int) : ref07_cost_L1 t l (i : Int) rec1 FU (costN t l i) 0 = ref07_cost_k2 (i : Int) rec1 (costN t l (i + 1)) := by
  obtain ⟨h1, h2⟩ := tab_spec h
  obtain ⟨c1, c2⟩ := tab_spec (okT_spec hv).2.2.2
  have hd := (okT_spec hv).2.1.2.1
  have hs := (okT_spec hv).1.2.1
  have hr := h2 i hi
  have hc := c2 i (by omega)
  have hb := costN_bnd hv h (i := i) (by omega)
  refine for0 t.demand.length (fun j => costN t l i + rowCost t l i j) (fun k s q => ref07_cost_L1 t l (i : Int) rec1 k s q) _ (by simp [rowCost, sumN]) (fun k q hq => ?_) (fun k => ?_) (by omega)
  · have hx : (gr l i)[q]? = some (cell l i q) := gi_at (by omega)
    have hy : (gr t.cost i)[q]? = some (cell t.cost i q) := gi_at (by omega)
    have b1 := rowCost_bnd hv h hi (j := q) (by omega)
    have b2 := cell_cost hv h hi hq
    show ref07_cost_B1 t l (i : Int) rec1 (ref07_cost_L1 t l (i : Int) rec1 k) _ _ = _
    unfold ref07_cost_B1
    rw [ix_nat (gr_at hi), if_pos (by omega), ix_nat (gr_at hi), ix_nat hx, ix_nat (gr_at (by omega)), ix_nat hy, gd_pos (by omega), gd_pos (by omega), gd_pos (by omega), Int.add_assoc]; rfl
  · show ref07_cost_B1 t l (i : Int) rec1 (ref07_cost_L1 t l (i : Int) rec1 k) _ _ = _
    unfold ref07_cost_B1
    rw [ix_nat (gr_at hi), if_neg (by omega)]; rfl
theorem rcost_eq (hv : okT t = true) (h : tabB t l 120 = true) : ref07_cost t l = some (costN t l l.length) := by
  obtain ⟨h1, h2⟩ := tab_spec h
  have hs := (okT_spec hv).1.2.1
  unfold ref07_cost
  refine for0 l.length (costN t l) (fun k s i => ref07_cost_L2 t l k s i) _ rfl (fun k i hi => ?_) (fun k => ?_) (by omega)
  · show ref07_cost_B2 t l (ref07_cost_L2 t l k) _ _ = _
    unfold ref07_cost_B2
    rw [if_pos (by omega), rcost_in hv h hi]
    unfold ref07_cost_k2
    rw [gd_pos (by omega)]; rfl
  · show ref07_cost_B2 t l (ref07_cost_L2 t l k) _ _ = _
    unfold ref07_cost_B2
    rw [if_neg (by omega)]; rfl
theorem check0 (h : checkPlan t l = 0) : okT t = true ∧ tabB t l 120 = true ∧ (∀ i, i < l.length → tot (gr l i) = gi t.supply i) ∧ ∀ j, j < t.demand.length → col l l.length j = gi t.demand j := by
  unfold checkPlan at h
  split at h
  · rename_i hv
    split at h
    · rename_i hT
      split at h
      · rename_i hr
        split at h
        · rename_i hc
          refine ⟨hv, hT, fun i hi => by simpa [rowsB] using hr i hi, fun j hj => ?_⟩
          have := tb_gi (f := col l l.length) hj
          rw [hc] at this
          exact this.symm
        · cases h
      · cases h
    · cases h
  · cases h
end
instance (l : List (List Int)) : Decidable (Lsmall l) := by unfold Lsmall; infer_instance
theorem tabLong_eq {l : List (List Int)} (hl : l.length ≤ 9223372036854775807) : law07_table l = some (!(l.all (fun r => decide (r.length ≤ 50)) && decide (l.length ≤ 50))) := by
  unfold law07_table
  rw [list_loop0 l (fun r => decide (r.length ≤ 50)) (law07_table_L1 l) (some (decide (50 < l.length))) (some true) (fun k i x hx => ?_) (fun k => ?_) hl]
  · cases l.all (fun r => decide (r.length ≤ 50))
    · rfl
    · rw [if_pos rfl, Bool.true_and]
      congr 1
      rw [Bool.eq_iff_iff]; simp
  · have := lt_of_at hx
    show law07_table_B1 l (law07_table_L1 l k) _ = _
    unfold law07_table_B1
    rw [if_pos (by omega), ix_nat hx]
    by_cases h : x.length ≤ 50
    · rw [if_neg (by omega), gd_pos (by omega), if_pos (by simpa using h)]; rfl
    · rw [if_pos (by omega), if_neg (by simpa using h)]
  · show law07_table_B1 l (law07_table_L1 l k) _ = _
    unfold law07_table_B1 law07_table_k1
    rw [if_neg (by omega)]
    congr 1
    exact decide_eq_decide.2 (by omega)
theorem small_iff {l : List (List Int)} : (!(l.all (fun r => decide (r.length ≤ 50)) && decide (l.length ≤ 50))) = false ↔ Lsmall l := by
  unfold Lsmall
  simp only [Bool.not_eq_false', Bool.and_eq_true, List.all_eq_true, decide_eq_true_eq]
  exact ⟨fun h => ⟨h.2, h.1⟩, fun h => ⟨h.2, h.1⟩⟩
/-- Long says true, or all is small. -/
theorem Long0 {t : Trade} (h3 : t.cost.length ≤ 9223372036854775807) : (law07_Long t [] = some true) ∨ (law07_Long t [] = some false ∧ Tsmall t) := by
  have e : law07_Long t [] = law07_Long_k1 t := by
    unfold law07_Long
    rw [list_loop0 ([] : List (List (List Int))) (fun _ => true) (law07_Long_L1 t []) (law07_Long_k1 t) (some true) (fun k i x hx => by cases hx) (fun k => ?_) (by simp)]
    · rfl
    · show law07_Long_B1 t [] (law07_Long_L1 t [] k) _ = _
      unfold law07_Long_B1
      rw [if_neg (by simp)]
  rw [e]
  unfold law07_Long_k1
  by_cases a : (50 : Int) < (t.supply.length : Int)
  · rw [if_pos a]; exact .inl rfl
  · rw [if_neg a]
    by_cases b : (50 : Int) < (t.demand.length : Int)
    · rw [if_pos b]; exact .inl rfl
    · rw [if_neg b, bnd_eq (tabLong_eq h3)]
      cases hq : (!(t.cost.all (fun r => decide (r.length ≤ 50)) && decide (t.cost.length ≤ 50)))
      · have := small_iff.1 hq
        exact .inr ⟨rfl, by omega, by omega, this.1, this.2⟩
      · exact .inl rfl
end Go.D7
