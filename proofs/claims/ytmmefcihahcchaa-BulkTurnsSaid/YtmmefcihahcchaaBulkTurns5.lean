/- Lemmas and walks that the proof of this claim uses: D7m22, D7m23, Tb22, D7p1, D7p2. -/
import Derived.Test.YtmmefcihahcchaaBulkTurns4
set_option linter.unusedVariables false
set_option linter.unusedSimpArgs false
namespace Go.D7
open Go.Tb Go.Proofs Go.RowKit
theorem Tc49 : callable Try.prog 49 = true := by kernel_rfl
set_option maxRecDepth 20000 in
set_option maxHeartbeats 1000000 in
theorem ref07_Turn_ok {a0 : Trade} {A_a0_supply : Option Addr} {c_a0_supply : Nat} {A_a0_demand : Option Addr} {c_a0_demand : Nat} {A_a0_cost : Option Addr} {c_a0_cost : Nat} {w : World} {res : Trade × Int} (h_a0_supply : Sl w A_a0_supply c_a0_supply 1 (a0.supply.map encN)) (h_a0_demand : Sl w A_a0_demand c_a0_demand 1 (a0.demand.map encN)) (h_a0_cost : Sl2 w A_a0_cost c_a0_cost 1 encN a0.cost) (F : ref07_Turn a0 = some res) : Calls Try.prog 48 #[.agg #[.slice A_a0_supply a0.supply.length c_a0_supply, .slice A_a0_demand a0.demand.length c_a0_demand, .slice A_a0_cost a0.cost.length c_a0_cost]] w (fun e w' => ∃ (A0_supply : Option Addr) (c0_supply : Nat) (A0_demand : Option Addr) (c0_demand : Nat) (A0_cost : Option Addr) (c0_cost : Nat) (hs0_cost : List (Option Addr × Nat)), e = .returned (.tuple #[.agg #[.slice A0_supply res.1.supply.length c0_supply, .slice A0_demand res.1.demand.length c0_demand, .slice A0_cost res.1.cost.length c0_cost], .int .i64 res.2]) ∧ Hp w w' [.own A0_supply c0_supply 3 1 (List.map encN res.1.supply), .own A0_demand c0_demand 3 1 (List.map encN res.1.demand), .tab A0_cost c0_cost 22 hs0_cost 3 1 (encM encN res.1.cost)]) := by
  refine calls_of_cw (args := [.agg #[.slice A_a0_supply a0.supply.length c_a0_supply, .slice A_a0_demand a0.demand.length c_a0_demand, .slice A_a0_cost a0.cost.length c_a0_cost]]) Try.func48 rfl rfl rfl rfl ?_
  have H := Hp.start w
  have R0 := H.ext
  unfold ref07_Turn at F
  refine CW.seq fun K1 hK1 => ?_
  refine CW.region ?_
  refine LW.go rfl rfl (OW.box rfl fun b1 w1 N1 => ?_)
  replace H := H.new N1 N1.blk
  replace R0 := H.ext
  refine LW.go rfl rfl (OW.alloc Tz25 fun b2 w2 N2 => ?_)
  replace H := H.new N2 N2.blk
  replace R0 := H.ext
  refine LW.pure rfl rfl (RV.assign rfl) ?_
  refine LW.nil (hK1 _ _ ?_)
  refine CW.seq fun K2 hK2 => ?_
  obtain ⟨r2, hr2, F⟩ := bnd_some F
  refine CW.region ?_
  refine LW.pure rfl rfl (RV.loadA [.slice A_a0_supply a0.supply.length c_a0_supply, .slice A_a0_demand a0.demand.length c_a0_demand, .slice A_a0_cost a0.cost.length c_a0_cost] Tk25 rfl (H.blk 1 rfl).cells rfl rfl) ?_
  refine LW.go rfl rfl (OW.call Tc39 rfl (ref07_Validate_ok (a0 := a0) (h_a0_supply.ext R0) (h_a0_demand.ext R0) (h_a0_cost.ext R0) hr2) ?_)
  rintro _ w3 ⟨rfl, E1⟩
  refine ⟨_, rfl, ?_⟩
  replace H := H.grow E1
  replace R0 := H.ext
  refine LW.pure rfl rfl (RV.assign rfl) ?_
  refine LW.nil (hK2 _ _ ?_)
  refine CW.seq fun K3 hK3 => ?_
  refine CW.seq fun K4 hK4 => ?_
  refine CW.region ?_
  refine LW.pure rfl rfl (RV.move rfl) ?_
  refine LW.pure rfl rfl (RV.nei rfl rfl) ?_
  refine LW.nil (hK4 _ _ ?_)
  by_cases hp1 : r2 = 0
  ·
    replace F := ite_y hp1 F
    have hq1 := dec_t hp1
    refine CW.condF rfl (not_f hq1) ?_
    refine CW.skip (hK3 _ _ ?_)
    refine CW.seqJ (fun ρ wl1 => (∃ (l1 : List Int) (l2 : List Int) (bk1 : Nat) (Al1 : Option Addr) (cl1 : Nat) (Al2 : Option Addr) (cl2 : Nat), ref07_Turn_k1 a0 l1 l2 = some res ∧ ρ = [(1, .pointer (some (⟨b1, 0, none⟩))), (2, .pointer (some (⟨b2, 0, none⟩))), (3, .int .i64 0), (5, .pointer (some (⟨bk1, 0, none⟩)))] ∧ Hp w wl1 [.own Al1 cl1 3 1 (List.map encN l1), .own Al2 cl2 3 1 (List.map encN l2), .blk b1 25 [.slice A_a0_supply a0.supply.length c_a0_supply, .slice A_a0_demand a0.demand.length c_a0_demand, .slice A_a0_cost a0.cost.length c_a0_cost], .blk b2 25 [.slice none 0 0, .slice none 0 0, .slice none 0 0], .blk bk1 25 [.slice Al1 l1.length cl1, .slice Al2 l2.length cl2, .slice none 0 0]])) ?_ ?_
    ·
      rintro _ wl1 ⟨l1, l2, bk1, Al1, cl1, Al2, cl2, F, rfl, H⟩
      have R0 := H.ext
      unfold ref07_Turn_k1 at F
      refine CW.seq fun K5 hK5 => ?_
      obtain ⟨r1, hr1, F⟩ := bnd_some F
      refine CW.region ?_
      refine LW.pure rfl rfl (RV.fieldAddr Tf25_2 rfl) ?_
      refine LW.pure rfl rfl (RV.load1 Tk23 rfl ((H.blk 2 rfl).cells.off 2) rfl) ?_
      refine LW.go rfl rfl (OW.call Tc49 rfl (ref07_Turned_ok (a0 := a0.cost) (h_a0_cost.ext R0) hr1) ?_)
      rintro _ w4 ⟨A6_0, c6_0, hs6_0, rfl, E2⟩
      refine ⟨_, rfl, ?_⟩
      replace H : Hp w w4 [.tab A6_0 c6_0 22 hs6_0 3 1 (encM encN r1), .own Al1 cl1 3 1 (List.map encN l1), .own Al2 cl2 3 1 (List.map encN l2), .blk b1 25 [.slice A_a0_supply a0.supply.length c_a0_supply, .slice A_a0_demand a0.demand.length c_a0_demand, .slice A_a0_cost a0.cost.length c_a0_cost], .blk b2 25 [.slice none 0 0, .slice none 0 0, .slice none 0 0], .blk bk1 25 [.slice Al1 l1.length cl1, .slice Al2 l2.length cl2, .slice none 0 0]] := H.append E2
      replace R0 := H.ext
      refine LW.pure rfl rfl (RV.fieldAddr Tf25_2 rfl) ?_
      refine LW.go rfl rfl (OW.store Tk23 rfl rfl (H.blk 5 rfl) (off := 2) (vs := [.slice A6_0 r1.length c6_0]) rfl rfl rfl rfl rfl fun w5 S1 => ?_)
      replace H : Hp w w5 [.tab A6_0 c6_0 22 hs6_0 3 1 (encM encN r1), .own Al1 cl1 3 1 (List.map encN l1), .own Al2 cl2 3 1 (List.map encN l2), .blk b1 25 [.slice A_a0_supply a0.supply.length c_a0_supply, .slice A_a0_demand a0.demand.length c_a0_demand, .slice A_a0_cost a0.cost.length c_a0_cost], .blk b2 25 [.slice none 0 0, .slice none 0 0, .slice none 0 0], .blk bk1 25 [.slice Al1 l1.length cl1, .slice Al2 l2.length cl2, .slice A6_0 r1.length c6_0]] := H.stored 5 rfl S1
      replace R0 := H.ext
      refine LW.nil (hK5 _ _ ?_)
      refine CW.seq fun K6 hK6 => ?_
      refine CW.region ?_
      refine LW.pure rfl rfl (RV.loadA [.slice Al1 l1.length cl1, .slice Al2 l2.length cl2, .slice A6_0 r1.length c6_0] Tk25 rfl (H.blk 5 rfl).cells rfl rfl) ?_
      refine LW.go rfl rfl (OW.store Tk25 rfl rfl (H.blk 4 rfl) (off := 0) (vs := [.slice Al1 l1.length cl1, .slice Al2 l2.length cl2, .slice A6_0 r1.length c6_0]) rfl rfl rfl rfl rfl fun w6 S2 => ?_)
      replace H : Hp w w6 [.tab A6_0 c6_0 22 hs6_0 3 1 (encM encN r1), .own Al1 cl1 3 1 (List.map encN l1), .own Al2 cl2 3 1 (List.map encN l2), .blk b1 25 [.slice A_a0_supply a0.supply.length c_a0_supply, .slice A_a0_demand a0.demand.length c_a0_demand, .slice A_a0_cost a0.cost.length c_a0_cost], .blk b2 25 [.slice Al1 l1.length cl1, .slice Al2 l2.length cl2, .slice A6_0 r1.length c6_0], .blk bk1 25 [.slice Al1 l1.length cl1, .slice Al2 l2.length cl2, .slice A6_0 r1.length c6_0]] := H.stored 4 rfl S2
      replace R0 := H.ext
      refine LW.pure rfl rfl (RV.assign rfl) ?_
      refine LW.nil (hK6 _ _ ?_)
      refine CW.ret ?_
      obtain rfl := Option.some.inj F
      refine ⟨_, (ResOK.two ⟨_, rfl, run_loadVar_agg Tk25 (H.blk 4 rfl).cells (us := [.slice Al1 l1.length cl1, .slice Al2 l2.length cl2, .slice A6_0 r1.length c6_0]) rfl rfl⟩ rfl), ?_⟩
      replace H := H.pick (L' := [.own Al1 cl1 3 1 (List.map encN l1), .own Al2 cl2 3 1 (List.map encN l2), .tab A6_0 c6_0 22 hs6_0 3 1 (encM encN r1)]) [1, 2, 0] (by decide) rfl
      replace R0 := H.ext
      exact ⟨Al1, cl1, Al2, cl2, A6_0, c6_0, hs6_0, (by first | rfl | (simp; done) | (simp; omega)), H⟩
    ·
      intro K7 hK7 jK15
      obtain ⟨hg1, F⟩ := gd_some F
      obtain ⟨hg2, F⟩ := gd_some F
      have H0 := H
      have hz : w3.heap.size ≤ w3.heap.size := Nat.le_refl _
      refine CW.draw [3, 7, 10] (XB w3 [.blk b2 25 [.slice none 0 0, .slice none 0 0, .slice none 0 0], .blk b1 25 [.slice A_a0_supply a0.supply.length c_a0_supply, .slice A_a0_demand a0.demand.length c_a0_demand, .slice A_a0_cost a0.cost.length c_a0_cost]] []) (.cons 1 2 (.cons 2 2 (.cons 5 2 (.cons 6 2 (.alt 0 (.alt 3 (.alt 4 (.alt 7 (.cons 8 2 (.cons 9 0 (.cons 10 0 .nil))) (.cons 9 0 (.cons 7 0 (.cons 8 2 (.cons 10 0 .nil))))) (.cons 9 0 (.cons 4 0 (.cons 7 0 (.cons 8 2 (.cons 10 0 .nil)))))) (.alt 4 (.alt 3 (.alt 7 (.cons 8 2 (.cons 9 0 (.cons 10 0 .nil))) (.cons 9 0 (.cons 7 0 (.cons 8 2 (.cons 10 0 .nil))))) (.cons 9 0 (.cons 3 0 (.cons 7 0 (.cons 8 2 (.cons 10 0 .nil)))))) (.cons 9 0 (.alt 3 (.cons 4 0 (.cons 7 0 (.cons 8 2 (.cons 10 0 .nil)))) (.cons 4 0 (.cons 3 0 (.cons 7 0 (.cons 8 2 (.cons 10 0 .nil))))))))) (.alt 4 (.alt 0 (.alt 3 (.alt 7 (.cons 8 2 (.cons 9 0 (.cons 10 0 .nil))) (.cons 9 0 (.cons 7 0 (.cons 8 2 (.cons 10 0 .nil))))) (.cons 9 0 (.cons 3 0 (.cons 7 0 (.cons 8 2 (.cons 10 0 .nil)))))) (.cons 9 0 (.cons 0 0 (.cons 3 0 (.cons 7 0 (.cons 8 2 (.cons 10 0 .nil))))))) (.cons 9 0 (.alt 0 (.alt 3 (.cons 4 0 (.cons 7 0 (.cons 8 2 (.cons 10 0 .nil)))) (.cons 4 0 (.cons 3 0 (.cons 7 0 (.cons 8 2 (.cons 10 0 .nil)))))) (.cons 4 0 (.cons 0 0 (.cons 3 0 (.cons 7 0 (.cons 8 2 (.cons 10 0 .nil)))))))))))))) mixed (by kernel_rfl) fun w7 E3 => ?_
      replace H := H.grow E3
      replace R0 := H.ext
      replace hz := Nat.le_trans hz (Ext.size E3)
      refine DW.thru rfl rfl rfl (fun _ EQ => RV.fieldAddr Tf25_1 rfl) ?_
      refine DW.thru rfl rfl rfl (fun _ EQ => RV.load1 Tk22 rfl ((H.thruB 1 rfl EQ (H0.notX [] 1 rfl (by decide))).cells.off 1) rfl) ?_
      refine DW.thru rfl rfl rfl (fun _ EQ => RV.fieldAddr Tf25_0 rfl) ?_
      refine DW.thru rfl rfl rfl (fun _ EQ => RV.load1 Tk22 rfl ((H.thruB 1 rfl EQ (H0.notX [] 1 rfl (by decide))).cells.off 0) rfl) ?_
      refine DW.alt ?_ ?_
      ·
        refine DW.sole rfl rfl rfl (OW.buildSlice (e := 3) (vs := []) (cs := []) rfl (fun _ => by kernel_rfl) fun b3 w8 N3 => ?_)
        refine ⟨fun _ => N3.ext, ModX.ext N3.ext, ?_⟩
        have G0_b3 : w3.heap.size ≤ b3 := by rw [N3.at_]; exact hz
        replace H := H.made' (k := 1) (t := 3) (enc := encN) (l := ([] : List Int)) N3 N3.blk (fun _ => rfl) rfl (by first | decide | omega | (simp; done) | (simp; omega))
        replace R0 := H.ext
        replace hz := Nat.le_trans hz (Ext.size N3.ext)
        refine DW.alt ?_ ?_
        ·
          refine DW.sole rfl rfl rfl (OW.appendG (enc := encN) (l := ([] : List Int)) (xs := a0.demand) Ts22 (look_slice rfl (by first | rfl | (simp; done) | (simp; omega))) rfl (H.own 0 rfl) (h_a0_demand.ext R0) (fun _ => rfl) rfl rfl hg1 (by decide) fun A1 c1 w9 O1 M1 D1 => ?_)
          have G0_A1 := Fresh.nextZ (Fresh.at_ G0_b3) D1 hz
          refine ⟨fun h => absurd h (by decide), M1.modx (XB.newA (Fresh.at_ G0_b3)), ?_⟩
          replace H : Hp w w9 [.own A1 c1 3 1 (List.map encN ((([] : List Int) ++ a0.demand))), .blk b2 25 [.slice none 0 0, .slice none 0 0, .slice none 0 0], .blk b1 25 [.slice A_a0_supply a0.supply.length c_a0_supply, .slice A_a0_demand a0.demand.length c_a0_demand, .slice A_a0_cost a0.cost.length c_a0_cost]] := H.mod 0 rfl M1 O1 D1
          replace R0 := H.ext
          replace hz := Nat.le_trans hz M1.size
          refine DW.alt ?_ ?_
          ·
            refine DW.sole rfl rfl rfl (OW.buildSlice (e := 3) (vs := []) (cs := []) rfl (fun _ => by kernel_rfl) fun b4 w10 N4 => ?_)
            refine ⟨fun _ => N4.ext, ModX.ext N4.ext, ?_⟩
            have G0_b4 : w3.heap.size ≤ b4 := by rw [N4.at_]; exact hz
            replace H := H.made' (k := 1) (t := 3) (enc := encN) (l := ([] : List Int)) N4 N4.blk (fun _ => rfl) rfl (by first | decide | omega | (simp; done) | (simp; omega))
            replace R0 := H.ext
            replace hz := Nat.le_trans hz (Ext.size N4.ext)
            refine DW.alt ?_ ?_
            ·
              refine DW.sole rfl rfl rfl (OW.appendG (enc := encN) (l := ([] : List Int)) (xs := a0.supply) Ts22 (look_slice rfl (by first | rfl | (simp; done) | (simp; omega))) rfl (H.own 0 rfl) (h_a0_supply.ext R0) (fun _ => rfl) rfl rfl hg2 (by decide) fun A2 c2 w11 O2 M2 D2 => ?_)
              have G0_A2 := Fresh.nextZ (Fresh.at_ G0_b4) D2 hz
              refine ⟨fun h => absurd h (by decide), M2.modx (XB.newA (Fresh.at_ G0_b4)), ?_⟩
              replace H : Hp w w11 [.own A2 c2 3 1 (List.map encN ((([] : List Int) ++ a0.supply))), .own A1 c1 3 1 (List.map encN ((([] : List Int) ++ a0.demand))), .blk b2 25 [.slice none 0 0, .slice none 0 0, .slice none 0 0], .blk b1 25 [.slice A_a0_supply a0.supply.length c_a0_supply, .slice A_a0_demand a0.demand.length c_a0_demand, .slice A_a0_cost a0.cost.length c_a0_cost]] := H.mod 0 rfl M2 O2 D2
              replace R0 := H.ext
              replace hz := Nat.le_trans hz M2.size
              refine DW.thru rfl rfl rfl (fun _ EQ => RV.build (vs := [.slice A1 (((([] : List Int) ++ a0.demand)).length) c1, .slice A2 (((([] : List Int) ++ a0.supply)).length) c2]) (cs := [.slice A1 (((([] : List Int) ++ a0.demand)).length) c1, .slice A2 (((([] : List Int) ++ a0.supply)).length) c2, .slice none 0 0]) rfl (fun _ => by kernel_rfl)) ?_
              refine DW.sole rfl rfl rfl (OW.alloc Tz25 fun b5 w12 N5 => ?_)
              refine ⟨fun _ => N5.ext, ModX.ext N5.ext, ?_⟩
              have G0_b5 : w3.heap.size ≤ b5 := by rw [N5.at_]; exact hz
              replace H := H.new N5 N5.blk
              replace R0 := H.ext
              replace hz := Nat.le_trans hz (Ext.size N5.ext)
              refine DW.sole rfl rfl rfl (OW.store Tk25 rfl rfl (H.blk 0 rfl) (off := 0) (vs := [.slice A1 (((([] : List Int) ++ a0.demand)).length) c1, .slice A2 (((([] : List Int) ++ a0.supply)).length) c2, .slice none 0 0]) rfl rfl rfl rfl rfl fun w13 S3 => ?_)
              refine ⟨fun h => absurd h (by decide), S3.modx (.inl G0_b5), ?_⟩
              replace H : Hp w w13 [.blk b5 25 [.slice A1 (((([] : List Int) ++ a0.demand)).length) c1, .slice A2 (((([] : List Int) ++ a0.supply)).length) c2, .slice none 0 0], .own A2 c2 3 1 (List.map encN ((([] : List Int) ++ a0.supply))), .own A1 c1 3 1 (List.map encN ((([] : List Int) ++ a0.demand))), .blk b2 25 [.slice none 0 0, .slice none 0 0, .slice none 0 0], .blk b1 25 [.slice A_a0_supply a0.supply.length c_a0_supply, .slice A_a0_demand a0.demand.length c_a0_demand, .slice A_a0_cost a0.cost.length c_a0_cost]] := H.stored 0 rfl S3
              replace R0 := H.ext
              replace hz := Nat.le_trans hz (Nat.le_of_eq S3.size.symm)
              replace H := H.pick (L' := [.own A1 c1 3 1 (List.map encN ((([] : List Int) ++ a0.demand))), .own A2 c2 3 1 (List.map encN ((([] : List Int) ++ a0.supply))), .blk b1 25 [.slice A_a0_supply a0.supply.length c_a0_supply, .slice A_a0_demand a0.demand.length c_a0_demand, .slice A_a0_cost a0.cost.length c_a0_cost], .blk b2 25 [.slice none 0 0, .slice none 0 0, .slice none 0 0], .blk b5 25 [.slice A1 (((([] : List Int) ++ a0.demand)).length) c1, .slice A2 (((([] : List Int) ++ a0.supply)).length) c2, .slice none 0 0]]) [2, 1, 4, 3, 0] (by decide) rfl
              replace R0 := H.ext
              refine DW.nil (jK15 _ _ ⟨_, ?_, ⟨((([] : List Int) ++ a0.demand)), ((([] : List Int) ++ a0.supply)), b5, A1, c1, A2, c2, F, rfl, H⟩⟩)
              exact ⟨rfl, rfl, rfl, rfl, trivial⟩
            ·
              refine DW.sole rfl rfl rfl (OW.alloc Tz25 fun b6 w14 N6 => ?_)
              refine ⟨fun _ => N6.ext, ModX.ext N6.ext, ?_⟩
              have G0_b6 : w3.heap.size ≤ b6 := by rw [N6.at_]; exact hz
              replace H := H.new N6 N6.blk
              replace R0 := H.ext
              replace hz := Nat.le_trans hz (Ext.size N6.ext)
              refine DW.sole rfl rfl rfl (OW.appendG (enc := encN) (l := ([] : List Int)) (xs := a0.supply) Ts22 (look_slice rfl (by first | rfl | (simp; done) | (simp; omega))) rfl (H.own 1 rfl) (h_a0_supply.ext R0) (fun _ => rfl) rfl rfl hg2 (by decide) fun A3 c3 w15 O3 M3 D3 => ?_)
              have G0_A3 := Fresh.nextZ (Fresh.at_ G0_b4) D3 hz
              refine ⟨fun h => absurd h (by decide), M3.modx (XB.newA (Fresh.at_ G0_b4)), ?_⟩
              replace H : Hp w w15 [.blk b6 25 [.slice none 0 0, .slice none 0 0, .slice none 0 0], .own A3 c3 3 1 (List.map encN ((([] : List Int) ++ a0.supply))), .own A1 c1 3 1 (List.map encN ((([] : List Int) ++ a0.demand))), .blk b2 25 [.slice none 0 0, .slice none 0 0, .slice none 0 0], .blk b1 25 [.slice A_a0_supply a0.supply.length c_a0_supply, .slice A_a0_demand a0.demand.length c_a0_demand, .slice A_a0_cost a0.cost.length c_a0_cost]] := H.mod 1 rfl M3 O3 D3
              replace R0 := H.ext
              replace hz := Nat.le_trans hz M3.size
              refine DW.thru rfl rfl rfl (fun _ EQ => RV.build (vs := [.slice A1 (((([] : List Int) ++ a0.demand)).length) c1, .slice A3 (((([] : List Int) ++ a0.supply)).length) c3]) (cs := [.slice A1 (((([] : List Int) ++ a0.demand)).length) c1, .slice A3 (((([] : List Int) ++ a0.supply)).length) c3, .slice none 0 0]) rfl (fun _ => by kernel_rfl)) ?_
              refine DW.sole rfl rfl rfl (OW.store Tk25 rfl rfl (H.blk 0 rfl) (off := 0) (vs := [.slice A1 (((([] : List Int) ++ a0.demand)).length) c1, .slice A3 (((([] : List Int) ++ a0.supply)).length) c3, .slice none 0 0]) rfl rfl rfl rfl rfl fun w16 S4 => ?_)
              refine ⟨fun h => absurd h (by decide), S4.modx (.inl G0_b6), ?_⟩
              replace H : Hp w w16 [.blk b6 25 [.slice A1 (((([] : List Int) ++ a0.demand)).length) c1, .slice A3 (((([] : List Int) ++ a0.supply)).length) c3, .slice none 0 0], .own A3 c3 3 1 (List.map encN ((([] : List Int) ++ a0.supply))), .own A1 c1 3 1 (List.map encN ((([] : List Int) ++ a0.demand))), .blk b2 25 [.slice none 0 0, .slice none 0 0, .slice none 0 0], .blk b1 25 [.slice A_a0_supply a0.supply.length c_a0_supply, .slice A_a0_demand a0.demand.length c_a0_demand, .slice A_a0_cost a0.cost.length c_a0_cost]] := H.stored 0 rfl S4
              replace R0 := H.ext
              replace hz := Nat.le_trans hz (Nat.le_of_eq S4.size.symm)
              replace H := H.pick (L' := [.own A1 c1 3 1 (List.map encN ((([] : List Int) ++ a0.demand))), .own A3 c3 3 1 (List.map encN ((([] : List Int) ++ a0.supply))), .blk b1 25 [.slice A_a0_supply a0.supply.length c_a0_supply, .slice A_a0_demand a0.demand.length c_a0_demand, .slice A_a0_cost a0.cost.length c_a0_cost], .blk b2 25 [.slice none 0 0, .slice none 0 0, .slice none 0 0], .blk b6 25 [.slice A1 (((([] : List Int) ++ a0.demand)).length) c1, .slice A3 (((([] : List Int) ++ a0.supply)).length) c3, .slice none 0 0]]) [2, 1, 4, 3, 0] (by decide) rfl
              replace R0 := H.ext
              refine DW.nil (jK15 _ _ ⟨_, ?_, ⟨((([] : List Int) ++ a0.demand)), ((([] : List Int) ++ a0.supply)), b6, A1, c1, A3, c3, F, rfl, H⟩⟩)
              exact ⟨rfl, rfl, rfl, rfl, trivial⟩
          ·
            refine DW.sole rfl rfl rfl (OW.alloc Tz25 fun b7 w17 N7 => ?_)
            refine ⟨fun _ => N7.ext, ModX.ext N7.ext, ?_⟩
            have G0_b7 : w3.heap.size ≤ b7 := by rw [N7.at_]; exact hz
            replace H := H.new N7 N7.blk
            replace R0 := H.ext
            replace hz := Nat.le_trans hz (Ext.size N7.ext)
            refine DW.sole rfl rfl rfl (OW.buildSlice (e := 3) (vs := []) (cs := []) rfl (fun _ => by kernel_rfl) fun b8 w18 N8 => ?_)
            refine ⟨fun _ => N8.ext, ModX.ext N8.ext, ?_⟩
            have G0_b8 : w3.heap.size ≤ b8 := by rw [N8.at_]; exact hz
            replace H := H.made' (k := 1) (t := 3) (enc := encN) (l := ([] : List Int)) N8 N8.blk (fun _ => rfl) rfl (by first | decide | omega | (simp; done) | (simp; omega))
            replace R0 := H.ext
            replace hz := Nat.le_trans hz (Ext.size N8.ext)
            refine DW.sole rfl rfl rfl (OW.appendG (enc := encN) (l := ([] : List Int)) (xs := a0.supply) Ts22 (look_slice rfl (by first | rfl | (simp; done) | (simp; omega))) rfl (H.own 0 rfl) (h_a0_supply.ext R0) (fun _ => rfl) rfl rfl hg2 (by decide) fun A4 c4 w19 O4 M4 D4 => ?_)
            have G0_A4 := Fresh.nextZ (Fresh.at_ G0_b8) D4 hz
            refine ⟨fun h => absurd h (by decide), M4.modx (XB.newA (Fresh.at_ G0_b8)), ?_⟩
            replace H : Hp w w19 [.own A4 c4 3 1 (List.map encN ((([] : List Int) ++ a0.supply))), .blk b7 25 [.slice none 0 0, .slice none 0 0, .slice none 0 0], .own A1 c1 3 1 (List.map encN ((([] : List Int) ++ a0.demand))), .blk b2 25 [.slice none 0 0, .slice none 0 0, .slice none 0 0], .blk b1 25 [.slice A_a0_supply a0.supply.length c_a0_supply, .slice A_a0_demand a0.demand.length c_a0_demand, .slice A_a0_cost a0.cost.length c_a0_cost]] := H.mod 0 rfl M4 O4 D4
            replace R0 := H.ext
            replace hz := Nat.le_trans hz M4.size
            refine DW.thru rfl rfl rfl (fun _ EQ => RV.build (vs := [.slice A1 (((([] : List Int) ++ a0.demand)).length) c1, .slice A4 (((([] : List Int) ++ a0.supply)).length) c4]) (cs := [.slice A1 (((([] : List Int) ++ a0.demand)).length) c1, .slice A4 (((([] : List Int) ++ a0.supply)).length) c4, .slice none 0 0]) rfl (fun _ => by kernel_rfl)) ?_
            refine DW.sole rfl rfl rfl (OW.store Tk25 rfl rfl (H.blk 1 rfl) (off := 0) (vs := [.slice A1 (((([] : List Int) ++ a0.demand)).length) c1, .slice A4 (((([] : List Int) ++ a0.supply)).length) c4, .slice none 0 0]) rfl rfl rfl rfl rfl fun w20 S5 => ?_)
            refine ⟨fun h => absurd h (by decide), S5.modx (.inl G0_b7), ?_⟩
            replace H : Hp w w20 [.own A4 c4 3 1 (List.map encN ((([] : List Int) ++ a0.supply))), .blk b7 25 [.slice A1 (((([] : List Int) ++ a0.demand)).length) c1, .slice A4 (((([] : List Int) ++ a0.supply)).length) c4, .slice none 0 0], .own A1 c1 3 1 (List.map encN ((([] : List Int) ++ a0.demand))), .blk b2 25 [.slice none 0 0, .slice none 0 0, .slice none 0 0], .blk b1 25 [.slice A_a0_supply a0.supply.length c_a0_supply, .slice A_a0_demand a0.demand.length c_a0_demand, .slice A_a0_cost a0.cost.length c_a0_cost]] := H.stored 1 rfl S5
            replace R0 := H.ext
            replace hz := Nat.le_trans hz (Nat.le_of_eq S5.size.symm)
            replace H := H.pick (L' := [.own A1 c1 3 1 (List.map encN ((([] : List Int) ++ a0.demand))), .own A4 c4 3 1 (List.map encN ((([] : List Int) ++ a0.supply))), .blk b1 25 [.slice A_a0_supply a0.supply.length c_a0_supply, .slice A_a0_demand a0.demand.length c_a0_demand, .slice A_a0_cost a0.cost.length c_a0_cost], .blk b2 25 [.slice none 0 0, .slice none 0 0, .slice none 0 0], .blk b7 25 [.slice A1 (((([] : List Int) ++ a0.demand)).length) c1, .slice A4 (((([] : List Int) ++ a0.supply)).length) c4, .slice none 0 0]]) [2, 0, 4, 3, 1] (by decide) rfl
            replace R0 := H.ext
            refine DW.nil (jK15 _ _ ⟨_, ?_, ⟨((([] : List Int) ++ a0.demand)), ((([] : List Int) ++ a0.supply)), b7, A1, c1, A4, c4, F, rfl, H⟩⟩)
            exact ⟨rfl, rfl, rfl, rfl, trivial⟩
        ·
          refine DW.alt ?_ ?_
          ·
            refine DW.sole rfl rfl rfl (OW.buildSlice (e := 3) (vs := []) (cs := []) rfl (fun _ => by kernel_rfl) fun b9 w21 N9 => ?_)
            refine ⟨fun _ => N9.ext, ModX.ext N9.ext, ?_⟩
            have G0_b9 : w3.heap.size ≤ b9 := by rw [N9.at_]; exact hz
            replace H := H.made' (k := 1) (t := 3) (enc := encN) (l := ([] : List Int)) N9 N9.blk (fun _ => rfl) rfl (by first | decide | omega | (simp; done) | (simp; omega))
            replace R0 := H.ext
            replace hz := Nat.le_trans hz (Ext.size N9.ext)
            refine DW.alt ?_ ?_
            ·
              refine DW.sole rfl rfl rfl (OW.appendG (enc := encN) (l := ([] : List Int)) (xs := a0.demand) Ts22 (look_slice rfl (by first | rfl | (simp; done) | (simp; omega))) rfl (H.own 1 rfl) (h_a0_demand.ext R0) (fun _ => rfl) rfl rfl hg1 (by decide) fun A5 c5 w22 O5 M5 D5 => ?_)
              have G0_A5 := Fresh.nextZ (Fresh.at_ G0_b3) D5 hz
              refine ⟨fun h => absurd h (by decide), M5.modx (XB.newA (Fresh.at_ G0_b3)), ?_⟩
              replace H : Hp w w22 [.own (some ⟨b9, 0, none⟩) ((([] : List Int)).length) 3 1 (List.map encN (([] : List Int))), .own A5 c5 3 1 (List.map encN ((([] : List Int) ++ a0.demand))), .blk b2 25 [.slice none 0 0, .slice none 0 0, .slice none 0 0], .blk b1 25 [.slice A_a0_supply a0.supply.length c_a0_supply, .slice A_a0_demand a0.demand.length c_a0_demand, .slice A_a0_cost a0.cost.length c_a0_cost]] := H.mod 1 rfl M5 O5 D5
              replace R0 := H.ext
              replace hz := Nat.le_trans hz M5.size
              refine DW.alt ?_ ?_
              ·
                refine DW.sole rfl rfl rfl (OW.appendG (enc := encN) (l := ([] : List Int)) (xs := a0.supply) Ts22 (look_slice rfl (by first | rfl | (simp; done) | (simp; omega))) rfl (H.own 0 rfl) (h_a0_supply.ext R0) (fun _ => rfl) rfl rfl hg2 (by decide) fun A6 c6 w23 O6 M6 D6 => ?_)
                have G0_A6 := Fresh.nextZ (Fresh.at_ G0_b9) D6 hz
                refine ⟨fun h => absurd h (by decide), M6.modx (XB.newA (Fresh.at_ G0_b9)), ?_⟩
                replace H : Hp w w23 [.own A6 c6 3 1 (List.map encN ((([] : List Int) ++ a0.supply))), .own A5 c5 3 1 (List.map encN ((([] : List Int) ++ a0.demand))), .blk b2 25 [.slice none 0 0, .slice none 0 0, .slice none 0 0], .blk b1 25 [.slice A_a0_supply a0.supply.length c_a0_supply, .slice A_a0_demand a0.demand.length c_a0_demand, .slice A_a0_cost a0.cost.length c_a0_cost]] := H.mod 0 rfl M6 O6 D6
                replace R0 := H.ext
                replace hz := Nat.le_trans hz M6.size
                refine DW.thru rfl rfl rfl (fun _ EQ => RV.build (vs := [.slice A5 (((([] : List Int) ++ a0.demand)).length) c5, .slice A6 (((([] : List Int) ++ a0.supply)).length) c6]) (cs := [.slice A5 (((([] : List Int) ++ a0.demand)).length) c5, .slice A6 (((([] : List Int) ++ a0.supply)).length) c6, .slice none 0 0]) rfl (fun _ => by kernel_rfl)) ?_
                refine DW.sole rfl rfl rfl (OW.alloc Tz25 fun b10 w24 N10 => ?_)
                refine ⟨fun _ => N10.ext, ModX.ext N10.ext, ?_⟩
                have G0_b10 : w3.heap.size ≤ b10 := by rw [N10.at_]; exact hz
                replace H := H.new N10 N10.blk
                replace R0 := H.ext
                replace hz := Nat.le_trans hz (Ext.size N10.ext)
                refine DW.sole rfl rfl rfl (OW.store Tk25 rfl rfl (H.blk 0 rfl) (off := 0) (vs := [.slice A5 (((([] : List Int) ++ a0.demand)).length) c5, .slice A6 (((([] : List Int) ++ a0.supply)).length) c6, .slice none 0 0]) rfl rfl rfl rfl rfl fun w25 S6 => ?_)
                refine ⟨fun h => absurd h (by decide), S6.modx (.inl G0_b10), ?_⟩
                replace H : Hp w w25 [.blk b10 25 [.slice A5 (((([] : List Int) ++ a0.demand)).length) c5, .slice A6 (((([] : List Int) ++ a0.supply)).length) c6, .slice none 0 0], .own A6 c6 3 1 (List.map encN ((([] : List Int) ++ a0.supply))), .own A5 c5 3 1 (List.map encN ((([] : List Int) ++ a0.demand))), .blk b2 25 [.slice none 0 0, .slice none 0 0, .slice none 0 0], .blk b1 25 [.slice A_a0_supply a0.supply.length c_a0_supply, .slice A_a0_demand a0.demand.length c_a0_demand, .slice A_a0_cost a0.cost.length c_a0_cost]] := H.stored 0 rfl S6
                replace R0 := H.ext
                replace hz := Nat.le_trans hz (Nat.le_of_eq S6.size.symm)
                replace H := H.pick (L' := [.own A5 c5 3 1 (List.map encN ((([] : List Int) ++ a0.demand))), .own A6 c6 3 1 (List.map encN ((([] : List Int) ++ a0.supply))), .blk b1 25 [.slice A_a0_supply a0.supply.length c_a0_supply, .slice A_a0_demand a0.demand.length c_a0_demand, .slice A_a0_cost a0.cost.length c_a0_cost], .blk b2 25 [.slice none 0 0, .slice none 0 0, .slice none 0 0], .blk b10 25 [.slice A5 (((([] : List Int) ++ a0.demand)).length) c5, .slice A6 (((([] : List Int) ++ a0.supply)).length) c6, .slice none 0 0]]) [2, 1, 4, 3, 0] (by decide) rfl
                replace R0 := H.ext
                refine DW.nil (jK15 _ _ ⟨_, ?_, ⟨((([] : List Int) ++ a0.demand)), ((([] : List Int) ++ a0.supply)), b10, A5, c5, A6, c6, F, rfl, H⟩⟩)
                exact ⟨rfl, rfl, rfl, rfl, trivial⟩
              ·
                refine DW.sole rfl rfl rfl (OW.alloc Tz25 fun b11 w26 N11 => ?_)
                refine ⟨fun _ => N11.ext, ModX.ext N11.ext, ?_⟩
                have G0_b11 : w3.heap.size ≤ b11 := by rw [N11.at_]; exact hz
                replace H := H.new N11 N11.blk
                replace R0 := H.ext
                replace hz := Nat.le_trans hz (Ext.size N11.ext)
                refine DW.sole rfl rfl rfl (OW.appendG (enc := encN) (l := ([] : List Int)) (xs := a0.supply) Ts22 (look_slice rfl (by first | rfl | (simp; done) | (simp; omega))) rfl (H.own 1 rfl) (h_a0_supply.ext R0) (fun _ => rfl) rfl rfl hg2 (by decide) fun A7 c7 w27 O7 M7 D7 => ?_)
                have G0_A7 := Fresh.nextZ (Fresh.at_ G0_b9) D7 hz
                refine ⟨fun h => absurd h (by decide), M7.modx (XB.newA (Fresh.at_ G0_b9)), ?_⟩
                replace H : Hp w w27 [.blk b11 25 [.slice none 0 0, .slice none 0 0, .slice none 0 0], .own A7 c7 3 1 (List.map encN ((([] : List Int) ++ a0.supply))), .own A5 c5 3 1 (List.map encN ((([] : List Int) ++ a0.demand))), .blk b2 25 [.slice none 0 0, .slice none 0 0, .slice none 0 0], .blk b1 25 [.slice A_a0_supply a0.supply.length c_a0_supply, .slice A_a0_demand a0.demand.length c_a0_demand, .slice A_a0_cost a0.cost.length c_a0_cost]] := H.mod 1 rfl M7 O7 D7
                replace R0 := H.ext
                replace hz := Nat.le_trans hz M7.size
                refine DW.thru rfl rfl rfl (fun _ EQ => RV.build (vs := [.slice A5 (((([] : List Int) ++ a0.demand)).length) c5, .slice A7 (((([] : List Int) ++ a0.supply)).length) c7]) (cs := [.slice A5 (((([] : List Int) ++ a0.demand)).length) c5, .slice A7 (((([] : List Int) ++ a0.supply)).length) c7, .slice none 0 0]) rfl (fun _ => by kernel_rfl)) ?_
                refine DW.sole rfl rfl rfl (OW.store Tk25 rfl rfl (H.blk 0 rfl) (off := 0) (vs := [.slice A5 (((([] : List Int) ++ a0.demand)).length) c5, .slice A7 (((([] : List Int) ++ a0.supply)).length) c7, .slice none 0 0]) rfl rfl rfl rfl rfl fun w28 S7 => ?_)
                refine ⟨fun h => absurd h (by decide), S7.modx (.inl G0_b11), ?_⟩
                replace H : Hp w w28 [.blk b11 25 [.slice A5 (((([] : List Int) ++ a0.demand)).length) c5, .slice A7 (((([] : List Int) ++ a0.supply)).length) c7, .slice none 0 0], .own A7 c7 3 1 (List.map encN ((([] : List Int) ++ a0.supply))), .own A5 c5 3 1 (List.map encN ((([] : List Int) ++ a0.demand))), .blk b2 25 [.slice none 0 0, .slice none 0 0, .slice none 0 0], .blk b1 25 [.slice A_a0_supply a0.supply.length c_a0_supply, .slice A_a0_demand a0.demand.length c_a0_demand, .slice A_a0_cost a0.cost.length c_a0_cost]] := H.stored 0 rfl S7
                replace R0 := H.ext
                replace hz := Nat.le_trans hz (Nat.le_of_eq S7.size.symm)
                replace H := H.pick (L' := [.own A5 c5 3 1 (List.map encN ((([] : List Int) ++ a0.demand))), .own A7 c7 3 1 (List.map encN ((([] : List Int) ++ a0.supply))), .blk b1 25 [.slice A_a0_supply a0.supply.length c_a0_supply, .slice A_a0_demand a0.demand.length c_a0_demand, .slice A_a0_cost a0.cost.length c_a0_cost], .blk b2 25 [.slice none 0 0, .slice none 0 0, .slice none 0 0], .blk b11 25 [.slice A5 (((([] : List Int) ++ a0.demand)).length) c5, .slice A7 (((([] : List Int) ++ a0.supply)).length) c7, .slice none 0 0]]) [2, 1, 4, 3, 0] (by decide) rfl
                replace R0 := H.ext
                refine DW.nil (jK15 _ _ ⟨_, ?_, ⟨((([] : List Int) ++ a0.demand)), ((([] : List Int) ++ a0.supply)), b11, A5, c5, A7, c7, F, rfl, H⟩⟩)
                exact ⟨rfl, rfl, rfl, rfl, trivial⟩
            ·
              refine DW.sole rfl rfl rfl (OW.alloc Tz25 fun b12 w29 N12 => ?_)
              refine ⟨fun _ => N12.ext, ModX.ext N12.ext, ?_⟩
              have G0_b12 : w3.heap.size ≤ b12 := by rw [N12.at_]; exact hz
              replace H := H.new N12 N12.blk
              replace R0 := H.ext
              replace hz := Nat.le_trans hz (Ext.size N12.ext)
              refine DW.sole rfl rfl rfl (OW.appendG (enc := encN) (l := ([] : List Int)) (xs := a0.demand) Ts22 (look_slice rfl (by first | rfl | (simp; done) | (simp; omega))) rfl (H.own 2 rfl) (h_a0_demand.ext R0) (fun _ => rfl) rfl rfl hg1 (by decide) fun A8 c8 w30 O8 M8 D8 => ?_)
              have G0_A8 := Fresh.nextZ (Fresh.at_ G0_b3) D8 hz
              refine ⟨fun h => absurd h (by decide), M8.modx (XB.newA (Fresh.at_ G0_b3)), ?_⟩
              replace H : Hp w w30 [.blk b12 25 [.slice none 0 0, .slice none 0 0, .slice none 0 0], .own (some ⟨b9, 0, none⟩) ((([] : List Int)).length) 3 1 (List.map encN (([] : List Int))), .own A8 c8 3 1 (List.map encN ((([] : List Int) ++ a0.demand))), .blk b2 25 [.slice none 0 0, .slice none 0 0, .slice none 0 0], .blk b1 25 [.slice A_a0_supply a0.supply.length c_a0_supply, .slice A_a0_demand a0.demand.length c_a0_demand, .slice A_a0_cost a0.cost.length c_a0_cost]] := H.mod 2 rfl M8 O8 D8
              replace R0 := H.ext
              replace hz := Nat.le_trans hz M8.size
              refine DW.sole rfl rfl rfl (OW.appendG (enc := encN) (l := ([] : List Int)) (xs := a0.supply) Ts22 (look_slice rfl (by first | rfl | (simp; done) | (simp; omega))) rfl (H.own 1 rfl) (h_a0_supply.ext R0) (fun _ => rfl) rfl rfl hg2 (by decide) fun A9 c9 w31 O9 M9 D9 => ?_)
              have G0_A9 := Fresh.nextZ (Fresh.at_ G0_b9) D9 hz
              refine ⟨fun h => absurd h (by decide), M9.modx (XB.newA (Fresh.at_ G0_b9)), ?_⟩
              replace H : Hp w w31 [.blk b12 25 [.slice none 0 0, .slice none 0 0, .slice none 0 0], .own A9 c9 3 1 (List.map encN ((([] : List Int) ++ a0.supply))), .own A8 c8 3 1 (List.map encN ((([] : List Int) ++ a0.demand))), .blk b2 25 [.slice none 0 0, .slice none 0 0, .slice none 0 0], .blk b1 25 [.slice A_a0_supply a0.supply.length c_a0_supply, .slice A_a0_demand a0.demand.length c_a0_demand, .slice A_a0_cost a0.cost.length c_a0_cost]] := H.mod 1 rfl M9 O9 D9
              replace R0 := H.ext
              replace hz := Nat.le_trans hz M9.size
              refine DW.thru rfl rfl rfl (fun _ EQ => RV.build (vs := [.slice A8 (((([] : List Int) ++ a0.demand)).length) c8, .slice A9 (((([] : List Int) ++ a0.supply)).length) c9]) (cs := [.slice A8 (((([] : List Int) ++ a0.demand)).length) c8, .slice A9 (((([] : List Int) ++ a0.supply)).length) c9, .slice none 0 0]) rfl (fun _ => by kernel_rfl)) ?_
              refine DW.sole rfl rfl rfl (OW.store Tk25 rfl rfl (H.blk 0 rfl) (off := 0) (vs := [.slice A8 (((([] : List Int) ++ a0.demand)).length) c8, .slice A9 (((([] : List Int) ++ a0.supply)).length) c9, .slice none 0 0]) rfl rfl rfl rfl rfl fun w32 S8 => ?_)
              refine ⟨fun h => absurd h (by decide), S8.modx (.inl G0_b12), ?_⟩
              replace H : Hp w w32 [.blk b12 25 [.slice A8 (((([] : List Int) ++ a0.demand)).length) c8, .slice A9 (((([] : List Int) ++ a0.supply)).length) c9, .slice none 0 0], .own A9 c9 3 1 (List.map encN ((([] : List Int) ++ a0.supply))), .own A8 c8 3 1 (List.map encN ((([] : List Int) ++ a0.demand))), .blk b2 25 [.slice none 0 0, .slice none 0 0, .slice none 0 0], .blk b1 25 [.slice A_a0_supply a0.supply.length c_a0_supply, .slice A_a0_demand a0.demand.length c_a0_demand, .slice A_a0_cost a0.cost.length c_a0_cost]] := H.stored 0 rfl S8
              replace R0 := H.ext
              replace hz := Nat.le_trans hz (Nat.le_of_eq S8.size.symm)
              replace H := H.pick (L' := [.own A8 c8 3 1 (List.map encN ((([] : List Int) ++ a0.demand))), .own A9 c9 3 1 (List.map encN ((([] : List Int) ++ a0.supply))), .blk b1 25 [.slice A_a0_supply a0.supply.length c_a0_supply, .slice A_a0_demand a0.demand.length c_a0_demand, .slice A_a0_cost a0.cost.length c_a0_cost], .blk b2 25 [.slice none 0 0, .slice none 0 0, .slice none 0 0], .blk b12 25 [.slice A8 (((([] : List Int) ++ a0.demand)).length) c8, .slice A9 (((([] : List Int) ++ a0.supply)).length) c9, .slice none 0 0]]) [2, 1, 4, 3, 0] (by decide) rfl
              replace R0 := H.ext
              refine DW.nil (jK15 _ _ ⟨_, ?_, ⟨((([] : List Int) ++ a0.demand)), ((([] : List Int) ++ a0.supply)), b12, A8, c8, A9, c9, F, rfl, H⟩⟩)
              exact ⟨rfl, rfl, rfl, rfl, trivial⟩
          ·
            refine DW.sole rfl rfl rfl (OW.alloc Tz25 fun b13 w33 N13 => ?_)
            refine ⟨fun _ => N13.ext, ModX.ext N13.ext, ?_⟩
            have G0_b13 : w3.heap.size ≤ b13 := by rw [N13.at_]; exact hz
            replace H := H.new N13 N13.blk
            replace R0 := H.ext
            replace hz := Nat.le_trans hz (Ext.size N13.ext)
            refine DW.alt ?_ ?_
            ·
              refine DW.sole rfl rfl rfl (OW.appendG (enc := encN) (l := ([] : List Int)) (xs := a0.demand) Ts22 (look_slice rfl (by first | rfl | (simp; done) | (simp; omega))) rfl (H.own 1 rfl) (h_a0_demand.ext R0) (fun _ => rfl) rfl rfl hg1 (by decide) fun A10 c10 w34 O10 M10 D10 => ?_)
              have G0_A10 := Fresh.nextZ (Fresh.at_ G0_b3) D10 hz
              refine ⟨fun h => absurd h (by decide), M10.modx (XB.newA (Fresh.at_ G0_b3)), ?_⟩
              replace H : Hp w w34 [.blk b13 25 [.slice none 0 0, .slice none 0 0, .slice none 0 0], .own A10 c10 3 1 (List.map encN ((([] : List Int) ++ a0.demand))), .blk b2 25 [.slice none 0 0, .slice none 0 0, .slice none 0 0], .blk b1 25 [.slice A_a0_supply a0.supply.length c_a0_supply, .slice A_a0_demand a0.demand.length c_a0_demand, .slice A_a0_cost a0.cost.length c_a0_cost]] := H.mod 1 rfl M10 O10 D10
              replace R0 := H.ext
              replace hz := Nat.le_trans hz M10.size
              refine DW.sole rfl rfl rfl (OW.buildSlice (e := 3) (vs := []) (cs := []) rfl (fun _ => by kernel_rfl) fun b14 w35 N14 => ?_)
              refine ⟨fun _ => N14.ext, ModX.ext N14.ext, ?_⟩
              have G0_b14 : w3.heap.size ≤ b14 := by rw [N14.at_]; exact hz
              replace H := H.made' (k := 1) (t := 3) (enc := encN) (l := ([] : List Int)) N14 N14.blk (fun _ => rfl) rfl (by first | decide | omega | (simp; done) | (simp; omega))
              replace R0 := H.ext
              replace hz := Nat.le_trans hz (Ext.size N14.ext)
              refine DW.sole rfl rfl rfl (OW.appendG (enc := encN) (l := ([] : List Int)) (xs := a0.supply) Ts22 (look_slice rfl (by first | rfl | (simp; done) | (simp; omega))) rfl (H.own 0 rfl) (h_a0_supply.ext R0) (fun _ => rfl) rfl rfl hg2 (by decide) fun A11 c11 w36 O11 M11 D11 => ?_)
              have G0_A11 := Fresh.nextZ (Fresh.at_ G0_b14) D11 hz
              refine ⟨fun h => absurd h (by decide), M11.modx (XB.newA (Fresh.at_ G0_b14)), ?_⟩
              replace H : Hp w w36 [.own A11 c11 3 1 (List.map encN ((([] : List Int) ++ a0.supply))), .blk b13 25 [.slice none 0 0, .slice none 0 0, .slice none 0 0], .own A10 c10 3 1 (List.map encN ((([] : List Int) ++ a0.demand))), .blk b2 25 [.slice none 0 0, .slice none 0 0, .slice none 0 0], .blk b1 25 [.slice A_a0_supply a0.supply.length c_a0_supply, .slice A_a0_demand a0.demand.length c_a0_demand, .slice A_a0_cost a0.cost.length c_a0_cost]] := H.mod 0 rfl M11 O11 D11
              replace R0 := H.ext
              replace hz := Nat.le_trans hz M11.size
              refine DW.thru rfl rfl rfl (fun _ EQ => RV.build (vs := [.slice A10 (((([] : List Int) ++ a0.demand)).length) c10, .slice A11 (((([] : List Int) ++ a0.supply)).length) c11]) (cs := [.slice A10 (((([] : List Int) ++ a0.demand)).length) c10, .slice A11 (((([] : List Int) ++ a0.supply)).length) c11, .slice none 0 0]) rfl (fun _ => by kernel_rfl)) ?_
              refine DW.sole rfl rfl rfl (OW.store Tk25 rfl rfl (H.blk 1 rfl) (off := 0) (vs := [.slice A10 (((([] : List Int) ++ a0.demand)).length) c10, .slice A11 (((([] : List Int) ++ a0.supply)).length) c11, .slice none 0 0]) rfl rfl rfl rfl rfl fun w37 S9 => ?_)
              refine ⟨fun h => absurd h (by decide), S9.modx (.inl G0_b13), ?_⟩
              replace H : Hp w w37 [.own A11 c11 3 1 (List.map encN ((([] : List Int) ++ a0.supply))), .blk b13 25 [.slice A10 (((([] : List Int) ++ a0.demand)).length) c10, .slice A11 (((([] : List Int) ++ a0.supply)).length) c11, .slice none 0 0], .own A10 c10 3 1 (List.map encN ((([] : List Int) ++ a0.demand))), .blk b2 25 [.slice none 0 0, .slice none 0 0, .slice none 0 0], .blk b1 25 [.slice A_a0_supply a0.supply.length c_a0_supply, .slice A_a0_demand a0.demand.length c_a0_demand, .slice A_a0_cost a0.cost.length c_a0_cost]] := H.stored 1 rfl S9
              replace R0 := H.ext
              replace hz := Nat.le_trans hz (Nat.le_of_eq S9.size.symm)
              replace H := H.pick (L' := [.own A10 c10 3 1 (List.map encN ((([] : List Int) ++ a0.demand))), .own A11 c11 3 1 (List.map encN ((([] : List Int) ++ a0.supply))), .blk b1 25 [.slice A_a0_supply a0.supply.length c_a0_supply, .slice A_a0_demand a0.demand.length c_a0_demand, .slice A_a0_cost a0.cost.length c_a0_cost], .blk b2 25 [.slice none 0 0, .slice none 0 0, .slice none 0 0], .blk b13 25 [.slice A10 (((([] : List Int) ++ a0.demand)).length) c10, .slice A11 (((([] : List Int) ++ a0.supply)).length) c11, .slice none 0 0]]) [2, 0, 4, 3, 1] (by decide) rfl
              replace R0 := H.ext
              refine DW.nil (jK15 _ _ ⟨_, ?_, ⟨((([] : List Int) ++ a0.demand)), ((([] : List Int) ++ a0.supply)), b13, A10, c10, A11, c11, F, rfl, H⟩⟩)
              exact ⟨rfl, rfl, rfl, rfl, trivial⟩
            ·
              refine DW.sole rfl rfl rfl (OW.buildSlice (e := 3) (vs := []) (cs := []) rfl (fun _ => by kernel_rfl) fun b15 w38 N15 => ?_)
              refine ⟨fun _ => N15.ext, ModX.ext N15.ext, ?_⟩
              have G0_b15 : w3.heap.size ≤ b15 := by rw [N15.at_]; exact hz
              replace H := H.made' (k := 1) (t := 3) (enc := encN) (l := ([] : List Int)) N15 N15.blk (fun _ => rfl) rfl (by first | decide | omega | (simp; done) | (simp; omega))
              replace R0 := H.ext
              replace hz := Nat.le_trans hz (Ext.size N15.ext)
              refine DW.sole rfl rfl rfl (OW.appendG (enc := encN) (l := ([] : List Int)) (xs := a0.demand) Ts22 (look_slice rfl (by first | rfl | (simp; done) | (simp; omega))) rfl (H.own 2 rfl) (h_a0_demand.ext R0) (fun _ => rfl) rfl rfl hg1 (by decide) fun A12 c12 w39 O12 M12 D12 => ?_)
              have G0_A12 := Fresh.nextZ (Fresh.at_ G0_b3) D12 hz
              refine ⟨fun h => absurd h (by decide), M12.modx (XB.newA (Fresh.at_ G0_b3)), ?_⟩
              replace H : Hp w w39 [.own (some ⟨b15, 0, none⟩) ((([] : List Int)).length) 3 1 (List.map encN (([] : List Int))), .blk b13 25 [.slice none 0 0, .slice none 0 0, .slice none 0 0], .own A12 c12 3 1 (List.map encN ((([] : List Int) ++ a0.demand))), .blk b2 25 [.slice none 0 0, .slice none 0 0, .slice none 0 0], .blk b1 25 [.slice A_a0_supply a0.supply.length c_a0_supply, .slice A_a0_demand a0.demand.length c_a0_demand, .slice A_a0_cost a0.cost.length c_a0_cost]] := H.mod 2 rfl M12 O12 D12
              replace R0 := H.ext
              replace hz := Nat.le_trans hz M12.size
              refine DW.sole rfl rfl rfl (OW.appendG (enc := encN) (l := ([] : List Int)) (xs := a0.supply) Ts22 (look_slice rfl (by first | rfl | (simp; done) | (simp; omega))) rfl (H.own 0 rfl) (h_a0_supply.ext R0) (fun _ => rfl) rfl rfl hg2 (by decide) fun A13 c13 w40 O13 M13 D13 => ?_)
              have G0_A13 := Fresh.nextZ (Fresh.at_ G0_b15) D13 hz
              refine ⟨fun h => absurd h (by decide), M13.modx (XB.newA (Fresh.at_ G0_b15)), ?_⟩
              replace H : Hp w w40 [.own A13 c13 3 1 (List.map encN ((([] : List Int) ++ a0.supply))), .blk b13 25 [.slice none 0 0, .slice none 0 0, .slice none 0 0], .own A12 c12 3 1 (List.map encN ((([] : List Int) ++ a0.demand))), .blk b2 25 [.slice none 0 0, .slice none 0 0, .slice none 0 0], .blk b1 25 [.slice A_a0_supply a0.supply.length c_a0_supply, .slice A_a0_demand a0.demand.length c_a0_demand, .slice A_a0_cost a0.cost.length c_a0_cost]] := H.mod 0 rfl M13 O13 D13
              replace R0 := H.ext
              replace hz := Nat.le_trans hz M13.size
              refine DW.thru rfl rfl rfl (fun _ EQ => RV.build (vs := [.slice A12 (((([] : List Int) ++ a0.demand)).length) c12, .slice A13 (((([] : List Int) ++ a0.supply)).length) c13]) (cs := [.slice A12 (((([] : List Int) ++ a0.demand)).length) c12, .slice A13 (((([] : List Int) ++ a0.supply)).length) c13, .slice none 0 0]) rfl (fun _ => by kernel_rfl)) ?_
              refine DW.sole rfl rfl rfl (OW.store Tk25 rfl rfl (H.blk 1 rfl) (off := 0) (vs := [.slice A12 (((([] : List Int) ++ a0.demand)).length) c12, .slice A13 (((([] : List Int) ++ a0.supply)).length) c13, .slice none 0 0]) rfl rfl rfl rfl rfl fun w41 S10 => ?_)
              refine ⟨fun h => absurd h (by decide), S10.modx (.inl G0_b13), ?_⟩
              replace H : Hp w w41 [.own A13 c13 3 1 (List.map encN ((([] : List Int) ++ a0.supply))), .blk b13 25 [.slice A12 (((([] : List Int) ++ a0.demand)).length) c12, .slice A13 (((([] : List Int) ++ a0.supply)).length) c13, .slice none 0 0], .own A12 c12 3 1 (List.map encN ((([] : List Int) ++ a0.demand))), .blk b2 25 [.slice none 0 0, .slice none 0 0, .slice none 0 0], .blk b1 25 [.slice A_a0_supply a0.supply.length c_a0_supply, .slice A_a0_demand a0.demand.length c_a0_demand, .slice A_a0_cost a0.cost.length c_a0_cost]] := H.stored 1 rfl S10
              replace R0 := H.ext
              replace hz := Nat.le_trans hz (Nat.le_of_eq S10.size.symm)
              replace H := H.pick (L' := [.own A12 c12 3 1 (List.map encN ((([] : List Int) ++ a0.demand))), .own A13 c13 3 1 (List.map encN ((([] : List Int) ++ a0.supply))), .blk b1 25 [.slice A_a0_supply a0.supply.length c_a0_supply, .slice A_a0_demand a0.demand.length c_a0_demand, .slice A_a0_cost a0.cost.length c_a0_cost], .blk b2 25 [.slice none 0 0, .slice none 0 0, .slice none 0 0], .blk b13 25 [.slice A12 (((([] : List Int) ++ a0.demand)).length) c12, .slice A13 (((([] : List Int) ++ a0.supply)).length) c13, .slice none 0 0]]) [2, 0, 4, 3, 1] (by decide) rfl
              replace R0 := H.ext
              refine DW.nil (jK15 _ _ ⟨_, ?_, ⟨((([] : List Int) ++ a0.demand)), ((([] : List Int) ++ a0.supply)), b13, A12, c12, A13, c13, F, rfl, H⟩⟩)
              exact ⟨rfl, rfl, rfl, rfl, trivial⟩
      ·
        refine DW.alt ?_ ?_
        ·
          refine DW.sole rfl rfl rfl (OW.buildSlice (e := 3) (vs := []) (cs := []) rfl (fun _ => by kernel_rfl) fun b16 w42 N16 => ?_)
          refine ⟨fun _ => N16.ext, ModX.ext N16.ext, ?_⟩
          have G0_b16 : w3.heap.size ≤ b16 := by rw [N16.at_]; exact hz
          replace H := H.made' (k := 1) (t := 3) (enc := encN) (l := ([] : List Int)) N16 N16.blk (fun _ => rfl) rfl (by first | decide | omega | (simp; done) | (simp; omega))
          replace R0 := H.ext
          replace hz := Nat.le_trans hz (Ext.size N16.ext)
          refine DW.alt ?_ ?_
          ·
            refine DW.sole rfl rfl rfl (OW.buildSlice (e := 3) (vs := []) (cs := []) rfl (fun _ => by kernel_rfl) fun b17 w43 N17 => ?_)
            refine ⟨fun _ => N17.ext, ModX.ext N17.ext, ?_⟩
            have G0_b17 : w3.heap.size ≤ b17 := by rw [N17.at_]; exact hz
            replace H := H.made' (k := 1) (t := 3) (enc := encN) (l := ([] : List Int)) N17 N17.blk (fun _ => rfl) rfl (by first | decide | omega | (simp; done) | (simp; omega))
            replace R0 := H.ext
            replace hz := Nat.le_trans hz (Ext.size N17.ext)
            refine DW.alt ?_ ?_
            ·
              refine DW.sole rfl rfl rfl (OW.appendG (enc := encN) (l := ([] : List Int)) (xs := a0.demand) Ts22 (look_slice rfl (by first | rfl | (simp; done) | (simp; omega))) rfl (H.own 0 rfl) (h_a0_demand.ext R0) (fun _ => rfl) rfl rfl hg1 (by decide) fun A14 c14 w44 O14 M14 D14 => ?_)
              have G0_A14 := Fresh.nextZ (Fresh.at_ G0_b17) D14 hz
              refine ⟨fun h => absurd h (by decide), M14.modx (XB.newA (Fresh.at_ G0_b17)), ?_⟩
              replace H : Hp w w44 [.own A14 c14 3 1 (List.map encN ((([] : List Int) ++ a0.demand))), .own (some ⟨b16, 0, none⟩) ((([] : List Int)).length) 3 1 (List.map encN (([] : List Int))), .blk b2 25 [.slice none 0 0, .slice none 0 0, .slice none 0 0], .blk b1 25 [.slice A_a0_supply a0.supply.length c_a0_supply, .slice A_a0_demand a0.demand.length c_a0_demand, .slice A_a0_cost a0.cost.length c_a0_cost]] := H.mod 0 rfl M14 O14 D14
              replace R0 := H.ext
              replace hz := Nat.le_trans hz M14.size
              refine DW.alt ?_ ?_
              ·
                refine DW.sole rfl rfl rfl (OW.appendG (enc := encN) (l := ([] : List Int)) (xs := a0.supply) Ts22 (look_slice rfl (by first | rfl | (simp; done) | (simp; omega))) rfl (H.own 1 rfl) (h_a0_supply.ext R0) (fun _ => rfl) rfl rfl hg2 (by decide) fun A15 c15 w45 O15 M15 D15 => ?_)
                have G0_A15 := Fresh.nextZ (Fresh.at_ G0_b16) D15 hz
                refine ⟨fun h => absurd h (by decide), M15.modx (XB.newA (Fresh.at_ G0_b16)), ?_⟩
                replace H : Hp w w45 [.own A14 c14 3 1 (List.map encN ((([] : List Int) ++ a0.demand))), .own A15 c15 3 1 (List.map encN ((([] : List Int) ++ a0.supply))), .blk b2 25 [.slice none 0 0, .slice none 0 0, .slice none 0 0], .blk b1 25 [.slice A_a0_supply a0.supply.length c_a0_supply, .slice A_a0_demand a0.demand.length c_a0_demand, .slice A_a0_cost a0.cost.length c_a0_cost]] := H.mod 1 rfl M15 O15 D15
                replace R0 := H.ext
                replace hz := Nat.le_trans hz M15.size
                refine DW.thru rfl rfl rfl (fun _ EQ => RV.build (vs := [.slice A14 (((([] : List Int) ++ a0.demand)).length) c14, .slice A15 (((([] : List Int) ++ a0.supply)).length) c15]) (cs := [.slice A14 (((([] : List Int) ++ a0.demand)).length) c14, .slice A15 (((([] : List Int) ++ a0.supply)).length) c15, .slice none 0 0]) rfl (fun _ => by kernel_rfl)) ?_
                refine DW.sole rfl rfl rfl (OW.alloc Tz25 fun b18 w46 N18 => ?_)
                refine ⟨fun _ => N18.ext, ModX.ext N18.ext, ?_⟩
                have G0_b18 : w3.heap.size ≤ b18 := by rw [N18.at_]; exact hz
                replace H := H.new N18 N18.blk
                replace R0 := H.ext
                replace hz := Nat.le_trans hz (Ext.size N18.ext)
                refine DW.sole rfl rfl rfl (OW.store Tk25 rfl rfl (H.blk 0 rfl) (off := 0) (vs := [.slice A14 (((([] : List Int) ++ a0.demand)).length) c14, .slice A15 (((([] : List Int) ++ a0.supply)).length) c15, .slice none 0 0]) rfl rfl rfl rfl rfl fun w47 S11 => ?_)
                refine ⟨fun h => absurd h (by decide), S11.modx (.inl G0_b18), ?_⟩
                replace H : Hp w w47 [.blk b18 25 [.slice A14 (((([] : List Int) ++ a0.demand)).length) c14, .slice A15 (((([] : List Int) ++ a0.supply)).length) c15, .slice none 0 0], .own A14 c14 3 1 (List.map encN ((([] : List Int) ++ a0.demand))), .own A15 c15 3 1 (List.map encN ((([] : List Int) ++ a0.supply))), .blk b2 25 [.slice none 0 0, .slice none 0 0, .slice none 0 0], .blk b1 25 [.slice A_a0_supply a0.supply.length c_a0_supply, .slice A_a0_demand a0.demand.length c_a0_demand, .slice A_a0_cost a0.cost.length c_a0_cost]] := H.stored 0 rfl S11
                replace R0 := H.ext
                replace hz := Nat.le_trans hz (Nat.le_of_eq S11.size.symm)
                replace H := H.pick (L' := [.own A14 c14 3 1 (List.map encN ((([] : List Int) ++ a0.demand))), .own A15 c15 3 1 (List.map encN ((([] : List Int) ++ a0.supply))), .blk b1 25 [.slice A_a0_supply a0.supply.length c_a0_supply, .slice A_a0_demand a0.demand.length c_a0_demand, .slice A_a0_cost a0.cost.length c_a0_cost], .blk b2 25 [.slice none 0 0, .slice none 0 0, .slice none 0 0], .blk b18 25 [.slice A14 (((([] : List Int) ++ a0.demand)).length) c14, .slice A15 (((([] : List Int) ++ a0.supply)).length) c15, .slice none 0 0]]) [1, 2, 4, 3, 0] (by decide) rfl
                replace R0 := H.ext
                refine DW.nil (jK15 _ _ ⟨_, ?_, ⟨((([] : List Int) ++ a0.demand)), ((([] : List Int) ++ a0.supply)), b18, A14, c14, A15, c15, F, rfl, H⟩⟩)
                exact ⟨rfl, rfl, rfl, rfl, trivial⟩
              ·
                refine DW.sole rfl rfl rfl (OW.alloc Tz25 fun b19 w48 N19 => ?_)
                refine ⟨fun _ => N19.ext, ModX.ext N19.ext, ?_⟩
                have G0_b19 : w3.heap.size ≤ b19 := by rw [N19.at_]; exact hz
                replace H := H.new N19 N19.blk
                replace R0 := H.ext
                replace hz := Nat.le_trans hz (Ext.size N19.ext)
                refine DW.sole rfl rfl rfl (OW.appendG (enc := encN) (l := ([] : List Int)) (xs := a0.supply) Ts22 (look_slice rfl (by first | rfl | (simp; done) | (simp; omega))) rfl (H.own 2 rfl) (h_a0_supply.ext R0) (fun _ => rfl) rfl rfl hg2 (by decide) fun A16 c16 w49 O16 M16 D16 => ?_)
                have G0_A16 := Fresh.nextZ (Fresh.at_ G0_b16) D16 hz
                refine ⟨fun h => absurd h (by decide), M16.modx (XB.newA (Fresh.at_ G0_b16)), ?_⟩
                replace H : Hp w w49 [.blk b19 25 [.slice none 0 0, .slice none 0 0, .slice none 0 0], .own A14 c14 3 1 (List.map encN ((([] : List Int) ++ a0.demand))), .own A16 c16 3 1 (List.map encN ((([] : List Int) ++ a0.supply))), .blk b2 25 [.slice none 0 0, .slice none 0 0, .slice none 0 0], .blk b1 25 [.slice A_a0_supply a0.supply.length c_a0_supply, .slice A_a0_demand a0.demand.length c_a0_demand, .slice A_a0_cost a0.cost.length c_a0_cost]] := H.mod 2 rfl M16 O16 D16
                replace R0 := H.ext
                replace hz := Nat.le_trans hz M16.size
                refine DW.thru rfl rfl rfl (fun _ EQ => RV.build (vs := [.slice A14 (((([] : List Int) ++ a0.demand)).length) c14, .slice A16 (((([] : List Int) ++ a0.supply)).length) c16]) (cs := [.slice A14 (((([] : List Int) ++ a0.demand)).length) c14, .slice A16 (((([] : List Int) ++ a0.supply)).length) c16, .slice none 0 0]) rfl (fun _ => by kernel_rfl)) ?_
                refine DW.sole rfl rfl rfl (OW.store Tk25 rfl rfl (H.blk 0 rfl) (off := 0) (vs := [.slice A14 (((([] : List Int) ++ a0.demand)).length) c14, .slice A16 (((([] : List Int) ++ a0.supply)).length) c16, .slice none 0 0]) rfl rfl rfl rfl rfl fun w50 S12 => ?_)
                refine ⟨fun h => absurd h (by decide), S12.modx (.inl G0_b19), ?_⟩
                replace H : Hp w w50 [.blk b19 25 [.slice A14 (((([] : List Int) ++ a0.demand)).length) c14, .slice A16 (((([] : List Int) ++ a0.supply)).length) c16, .slice none 0 0], .own A14 c14 3 1 (List.map encN ((([] : List Int) ++ a0.demand))), .own A16 c16 3 1 (List.map encN ((([] : List Int) ++ a0.supply))), .blk b2 25 [.slice none 0 0, .slice none 0 0, .slice none 0 0], .blk b1 25 [.slice A_a0_supply a0.supply.length c_a0_supply, .slice A_a0_demand a0.demand.length c_a0_demand, .slice A_a0_cost a0.cost.length c_a0_cost]] := H.stored 0 rfl S12
                replace R0 := H.ext
                replace hz := Nat.le_trans hz (Nat.le_of_eq S12.size.symm)
                replace H := H.pick (L' := [.own A14 c14 3 1 (List.map encN ((([] : List Int) ++ a0.demand))), .own A16 c16 3 1 (List.map encN ((([] : List Int) ++ a0.supply))), .blk b1 25 [.slice A_a0_supply a0.supply.length c_a0_supply, .slice A_a0_demand a0.demand.length c_a0_demand, .slice A_a0_cost a0.cost.length c_a0_cost], .blk b2 25 [.slice none 0 0, .slice none 0 0, .slice none 0 0], .blk b19 25 [.slice A14 (((([] : List Int) ++ a0.demand)).length) c14, .slice A16 (((([] : List Int) ++ a0.supply)).length) c16, .slice none 0 0]]) [1, 2, 4, 3, 0] (by decide) rfl
                replace R0 := H.ext
                refine DW.nil (jK15 _ _ ⟨_, ?_, ⟨((([] : List Int) ++ a0.demand)), ((([] : List Int) ++ a0.supply)), b19, A14, c14, A16, c16, F, rfl, H⟩⟩)
                exact ⟨rfl, rfl, rfl, rfl, trivial⟩
            ·
              refine DW.sole rfl rfl rfl (OW.alloc Tz25 fun b20 w51 N20 => ?_)
              refine ⟨fun _ => N20.ext, ModX.ext N20.ext, ?_⟩
              have G0_b20 : w3.heap.size ≤ b20 := by rw [N20.at_]; exact hz
              replace H := H.new N20 N20.blk
              replace R0 := H.ext
              replace hz := Nat.le_trans hz (Ext.size N20.ext)
              refine DW.sole rfl rfl rfl (OW.appendG (enc := encN) (l := ([] : List Int)) (xs := a0.demand) Ts22 (look_slice rfl (by first | rfl | (simp; done) | (simp; omega))) rfl (H.own 1 rfl) (h_a0_demand.ext R0) (fun _ => rfl) rfl rfl hg1 (by decide) fun A17 c17 w52 O17 M17 D17 => ?_)
              have G0_A17 := Fresh.nextZ (Fresh.at_ G0_b17) D17 hz
              refine ⟨fun h => absurd h (by decide), M17.modx (XB.newA (Fresh.at_ G0_b17)), ?_⟩
              replace H : Hp w w52 [.blk b20 25 [.slice none 0 0, .slice none 0 0, .slice none 0 0], .own A17 c17 3 1 (List.map encN ((([] : List Int) ++ a0.demand))), .own (some ⟨b16, 0, none⟩) ((([] : List Int)).length) 3 1 (List.map encN (([] : List Int))), .blk b2 25 [.slice none 0 0, .slice none 0 0, .slice none 0 0], .blk b1 25 [.slice A_a0_supply a0.supply.length c_a0_supply, .slice A_a0_demand a0.demand.length c_a0_demand, .slice A_a0_cost a0.cost.length c_a0_cost]] := H.mod 1 rfl M17 O17 D17
              replace R0 := H.ext
              replace hz := Nat.le_trans hz M17.size
              refine DW.sole rfl rfl rfl (OW.appendG (enc := encN) (l := ([] : List Int)) (xs := a0.supply) Ts22 (look_slice rfl (by first | rfl | (simp; done) | (simp; omega))) rfl (H.own 2 rfl) (h_a0_supply.ext R0) (fun _ => rfl) rfl rfl hg2 (by decide) fun A18 c18 w53 O18 M18 D18 => ?_)
              have G0_A18 := Fresh.nextZ (Fresh.at_ G0_b16) D18 hz
              refine ⟨fun h => absurd h (by decide), M18.modx (XB.newA (Fresh.at_ G0_b16)), ?_⟩
              replace H : Hp w w53 [.blk b20 25 [.slice none 0 0, .slice none 0 0, .slice none 0 0], .own A17 c17 3 1 (List.map encN ((([] : List Int) ++ a0.demand))), .own A18 c18 3 1 (List.map encN ((([] : List Int) ++ a0.supply))), .blk b2 25 [.slice none 0 0, .slice none 0 0, .slice none 0 0], .blk b1 25 [.slice A_a0_supply a0.supply.length c_a0_supply, .slice A_a0_demand a0.demand.length c_a0_demand, .slice A_a0_cost a0.cost.length c_a0_cost]] := H.mod 2 rfl M18 O18 D18
              replace R0 := H.ext
              replace hz := Nat.le_trans hz M18.size
              refine DW.thru rfl rfl rfl (fun _ EQ => RV.build (vs := [.slice A17 (((([] : List Int) ++ a0.demand)).length) c17, .slice A18 (((([] : List Int) ++ a0.supply)).length) c18]) (cs := [.slice A17 (((([] : List Int) ++ a0.demand)).length) c17, .slice A18 (((([] : List Int) ++ a0.supply)).length) c18, .slice none 0 0]) rfl (fun _ => by kernel_rfl)) ?_
              refine DW.sole rfl rfl rfl (OW.store Tk25 rfl rfl (H.blk 0 rfl) (off := 0) (vs := [.slice A17 (((([] : List Int) ++ a0.demand)).length) c17, .slice A18 (((([] : List Int) ++ a0.supply)).length) c18, .slice none 0 0]) rfl rfl rfl rfl rfl fun w54 S13 => ?_)
              refine ⟨fun h => absurd h (by decide), S13.modx (.inl G0_b20), ?_⟩
              replace H : Hp w w54 [.blk b20 25 [.slice A17 (((([] : List Int) ++ a0.demand)).length) c17, .slice A18 (((([] : List Int) ++ a0.supply)).length) c18, .slice none 0 0], .own A17 c17 3 1 (List.map encN ((([] : List Int) ++ a0.demand))), .own A18 c18 3 1 (List.map encN ((([] : List Int) ++ a0.supply))), .blk b2 25 [.slice none 0 0, .slice none 0 0, .slice none 0 0], .blk b1 25 [.slice A_a0_supply a0.supply.length c_a0_supply, .slice A_a0_demand a0.demand.length c_a0_demand, .slice A_a0_cost a0.cost.length c_a0_cost]] := H.stored 0 rfl S13
              replace R0 := H.ext
              replace hz := Nat.le_trans hz (Nat.le_of_eq S13.size.symm)
              replace H := H.pick (L' := [.own A17 c17 3 1 (List.map encN ((([] : List Int) ++ a0.demand))), .own A18 c18 3 1 (List.map encN ((([] : List Int) ++ a0.supply))), .blk b1 25 [.slice A_a0_supply a0.supply.length c_a0_supply, .slice A_a0_demand a0.demand.length c_a0_demand, .slice A_a0_cost a0.cost.length c_a0_cost], .blk b2 25 [.slice none 0 0, .slice none 0 0, .slice none 0 0], .blk b20 25 [.slice A17 (((([] : List Int) ++ a0.demand)).length) c17, .slice A18 (((([] : List Int) ++ a0.supply)).length) c18, .slice none 0 0]]) [1, 2, 4, 3, 0] (by decide) rfl
              replace R0 := H.ext
              refine DW.nil (jK15 _ _ ⟨_, ?_, ⟨((([] : List Int) ++ a0.demand)), ((([] : List Int) ++ a0.supply)), b20, A17, c17, A18, c18, F, rfl, H⟩⟩)
              exact ⟨rfl, rfl, rfl, rfl, trivial⟩
          ·
            refine DW.sole rfl rfl rfl (OW.alloc Tz25 fun b21 w55 N21 => ?_)
            refine ⟨fun _ => N21.ext, ModX.ext N21.ext, ?_⟩
            have G0_b21 : w3.heap.size ≤ b21 := by rw [N21.at_]; exact hz
            replace H := H.new N21 N21.blk
            replace R0 := H.ext
            replace hz := Nat.le_trans hz (Ext.size N21.ext)
            refine DW.sole rfl rfl rfl (OW.buildSlice (e := 3) (vs := []) (cs := []) rfl (fun _ => by kernel_rfl) fun b22 w56 N22 => ?_)
            refine ⟨fun _ => N22.ext, ModX.ext N22.ext, ?_⟩
            have G0_b22 : w3.heap.size ≤ b22 := by rw [N22.at_]; exact hz
            replace H := H.made' (k := 1) (t := 3) (enc := encN) (l := ([] : List Int)) N22 N22.blk (fun _ => rfl) rfl (by first | decide | omega | (simp; done) | (simp; omega))
            replace R0 := H.ext
            replace hz := Nat.le_trans hz (Ext.size N22.ext)
            refine DW.sole rfl rfl rfl (OW.appendG (enc := encN) (l := ([] : List Int)) (xs := a0.demand) Ts22 (look_slice rfl (by first | rfl | (simp; done) | (simp; omega))) rfl (H.own 0 rfl) (h_a0_demand.ext R0) (fun _ => rfl) rfl rfl hg1 (by decide) fun A19 c19 w57 O19 M19 D19 => ?_)
            have G0_A19 := Fresh.nextZ (Fresh.at_ G0_b22) D19 hz
            refine ⟨fun h => absurd h (by decide), M19.modx (XB.newA (Fresh.at_ G0_b22)), ?_⟩
            replace H : Hp w w57 [.own A19 c19 3 1 (List.map encN ((([] : List Int) ++ a0.demand))), .blk b21 25 [.slice none 0 0, .slice none 0 0, .slice none 0 0], .own (some ⟨b16, 0, none⟩) ((([] : List Int)).length) 3 1 (List.map encN (([] : List Int))), .blk b2 25 [.slice none 0 0, .slice none 0 0, .slice none 0 0], .blk b1 25 [.slice A_a0_supply a0.supply.length c_a0_supply, .slice A_a0_demand a0.demand.length c_a0_demand, .slice A_a0_cost a0.cost.length c_a0_cost]] := H.mod 0 rfl M19 O19 D19
            replace R0 := H.ext
            replace hz := Nat.le_trans hz M19.size
            refine DW.sole rfl rfl rfl (OW.appendG (enc := encN) (l := ([] : List Int)) (xs := a0.supply) Ts22 (look_slice rfl (by first | rfl | (simp; done) | (simp; omega))) rfl (H.own 2 rfl) (h_a0_supply.ext R0) (fun _ => rfl) rfl rfl hg2 (by decide) fun A20 c20 w58 O20 M20 D20 => ?_)
            have G0_A20 := Fresh.nextZ (Fresh.at_ G0_b16) D20 hz
            refine ⟨fun h => absurd h (by decide), M20.modx (XB.newA (Fresh.at_ G0_b16)), ?_⟩
            replace H : Hp w w58 [.own A19 c19 3 1 (List.map encN ((([] : List Int) ++ a0.demand))), .blk b21 25 [.slice none 0 0, .slice none 0 0, .slice none 0 0], .own A20 c20 3 1 (List.map encN ((([] : List Int) ++ a0.supply))), .blk b2 25 [.slice none 0 0, .slice none 0 0, .slice none 0 0], .blk b1 25 [.slice A_a0_supply a0.supply.length c_a0_supply, .slice A_a0_demand a0.demand.length c_a0_demand, .slice A_a0_cost a0.cost.length c_a0_cost]] := H.mod 2 rfl M20 O20 D20
            replace R0 := H.ext
            replace hz := Nat.le_trans hz M20.size
            refine DW.thru rfl rfl rfl (fun _ EQ => RV.build (vs := [.slice A19 (((([] : List Int) ++ a0.demand)).length) c19, .slice A20 (((([] : List Int) ++ a0.supply)).length) c20]) (cs := [.slice A19 (((([] : List Int) ++ a0.demand)).length) c19, .slice A20 (((([] : List Int) ++ a0.supply)).length) c20, .slice none 0 0]) rfl (fun _ => by kernel_rfl)) ?_
            refine DW.sole rfl rfl rfl (OW.store Tk25 rfl rfl (H.blk 1 rfl) (off := 0) (vs := [.slice A19 (((([] : List Int) ++ a0.demand)).length) c19, .slice A20 (((([] : List Int) ++ a0.supply)).length) c20, .slice none 0 0]) rfl rfl rfl rfl rfl fun w59 S14 => ?_)
            refine ⟨fun h => absurd h (by decide), S14.modx (.inl G0_b21), ?_⟩
            replace H : Hp w w59 [.own A19 c19 3 1 (List.map encN ((([] : List Int) ++ a0.demand))), .blk b21 25 [.slice A19 (((([] : List Int) ++ a0.demand)).length) c19, .slice A20 (((([] : List Int) ++ a0.supply)).length) c20, .slice none 0 0], .own A20 c20 3 1 (List.map encN ((([] : List Int) ++ a0.supply))), .blk b2 25 [.slice none 0 0, .slice none 0 0, .slice none 0 0], .blk b1 25 [.slice A_a0_supply a0.supply.length c_a0_supply, .slice A_a0_demand a0.demand.length c_a0_demand, .slice A_a0_cost a0.cost.length c_a0_cost]] := H.stored 1 rfl S14
            replace R0 := H.ext
            replace hz := Nat.le_trans hz (Nat.le_of_eq S14.size.symm)
            replace H := H.pick (L' := [.own A19 c19 3 1 (List.map encN ((([] : List Int) ++ a0.demand))), .own A20 c20 3 1 (List.map encN ((([] : List Int) ++ a0.supply))), .blk b1 25 [.slice A_a0_supply a0.supply.length c_a0_supply, .slice A_a0_demand a0.demand.length c_a0_demand, .slice A_a0_cost a0.cost.length c_a0_cost], .blk b2 25 [.slice none 0 0, .slice none 0 0, .slice none 0 0], .blk b21 25 [.slice A19 (((([] : List Int) ++ a0.demand)).length) c19, .slice A20 (((([] : List Int) ++ a0.supply)).length) c20, .slice none 0 0]]) [0, 2, 4, 3, 1] (by decide) rfl
            replace R0 := H.ext
            refine DW.nil (jK15 _ _ ⟨_, ?_, ⟨((([] : List Int) ++ a0.demand)), ((([] : List Int) ++ a0.supply)), b21, A19, c19, A20, c20, F, rfl, H⟩⟩)
            exact ⟨rfl, rfl, rfl, rfl, trivial⟩
        ·
          refine DW.sole rfl rfl rfl (OW.alloc Tz25 fun b23 w60 N23 => ?_)
          refine ⟨fun _ => N23.ext, ModX.ext N23.ext, ?_⟩
          have G0_b23 : w3.heap.size ≤ b23 := by rw [N23.at_]; exact hz
          replace H := H.new N23 N23.blk
          replace R0 := H.ext
          replace hz := Nat.le_trans hz (Ext.size N23.ext)
          refine DW.alt ?_ ?_
          ·
            refine DW.sole rfl rfl rfl (OW.buildSlice (e := 3) (vs := []) (cs := []) rfl (fun _ => by kernel_rfl) fun b24 w61 N24 => ?_)
            refine ⟨fun _ => N24.ext, ModX.ext N24.ext, ?_⟩
            have G0_b24 : w3.heap.size ≤ b24 := by rw [N24.at_]; exact hz
            replace H := H.made' (k := 1) (t := 3) (enc := encN) (l := ([] : List Int)) N24 N24.blk (fun _ => rfl) rfl (by first | decide | omega | (simp; done) | (simp; omega))
            replace R0 := H.ext
            replace hz := Nat.le_trans hz (Ext.size N24.ext)
            refine DW.alt ?_ ?_
            ·
              refine DW.sole rfl rfl rfl (OW.appendG (enc := encN) (l := ([] : List Int)) (xs := a0.demand) Ts22 (look_slice rfl (by first | rfl | (simp; done) | (simp; omega))) rfl (H.own 0 rfl) (h_a0_demand.ext R0) (fun _ => rfl) rfl rfl hg1 (by decide) fun A21 c21 w62 O21 M21 D21 => ?_)
              have G0_A21 := Fresh.nextZ (Fresh.at_ G0_b24) D21 hz
              refine ⟨fun h => absurd h (by decide), M21.modx (XB.newA (Fresh.at_ G0_b24)), ?_⟩
              replace H : Hp w w62 [.own A21 c21 3 1 (List.map encN ((([] : List Int) ++ a0.demand))), .blk b23 25 [.slice none 0 0, .slice none 0 0, .slice none 0 0], .blk b2 25 [.slice none 0 0, .slice none 0 0, .slice none 0 0], .blk b1 25 [.slice A_a0_supply a0.supply.length c_a0_supply, .slice A_a0_demand a0.demand.length c_a0_demand, .slice A_a0_cost a0.cost.length c_a0_cost]] := H.mod 0 rfl M21 O21 D21
              replace R0 := H.ext
              replace hz := Nat.le_trans hz M21.size
              refine DW.sole rfl rfl rfl (OW.buildSlice (e := 3) (vs := []) (cs := []) rfl (fun _ => by kernel_rfl) fun b25 w63 N25 => ?_)
              refine ⟨fun _ => N25.ext, ModX.ext N25.ext, ?_⟩
              have G0_b25 : w3.heap.size ≤ b25 := by rw [N25.at_]; exact hz
              replace H := H.made' (k := 1) (t := 3) (enc := encN) (l := ([] : List Int)) N25 N25.blk (fun _ => rfl) rfl (by first | decide | omega | (simp; done) | (simp; omega))
              replace R0 := H.ext
              replace hz := Nat.le_trans hz (Ext.size N25.ext)
              refine DW.sole rfl rfl rfl (OW.appendG (enc := encN) (l := ([] : List Int)) (xs := a0.supply) Ts22 (look_slice rfl (by first | rfl | (simp; done) | (simp; omega))) rfl (H.own 0 rfl) (h_a0_supply.ext R0) (fun _ => rfl) rfl rfl hg2 (by decide) fun A22 c22 w64 O22 M22 D22 => ?_)
              have G0_A22 := Fresh.nextZ (Fresh.at_ G0_b25) D22 hz
              refine ⟨fun h => absurd h (by decide), M22.modx (XB.newA (Fresh.at_ G0_b25)), ?_⟩
              replace H : Hp w w64 [.own A22 c22 3 1 (List.map encN ((([] : List Int) ++ a0.supply))), .own A21 c21 3 1 (List.map encN ((([] : List Int) ++ a0.demand))), .blk b23 25 [.slice none 0 0, .slice none 0 0, .slice none 0 0], .blk b2 25 [.slice none 0 0, .slice none 0 0, .slice none 0 0], .blk b1 25 [.slice A_a0_supply a0.supply.length c_a0_supply, .slice A_a0_demand a0.demand.length c_a0_demand, .slice A_a0_cost a0.cost.length c_a0_cost]] := H.mod 0 rfl M22 O22 D22
              replace R0 := H.ext
              replace hz := Nat.le_trans hz M22.size
              refine DW.thru rfl rfl rfl (fun _ EQ => RV.build (vs := [.slice A21 (((([] : List Int) ++ a0.demand)).length) c21, .slice A22 (((([] : List Int) ++ a0.supply)).length) c22]) (cs := [.slice A21 (((([] : List Int) ++ a0.demand)).length) c21, .slice A22 (((([] : List Int) ++ a0.supply)).length) c22, .slice none 0 0]) rfl (fun _ => by kernel_rfl)) ?_
              refine DW.sole rfl rfl rfl (OW.store Tk25 rfl rfl (H.blk 2 rfl) (off := 0) (vs := [.slice A21 (((([] : List Int) ++ a0.demand)).length) c21, .slice A22 (((([] : List Int) ++ a0.supply)).length) c22, .slice none 0 0]) rfl rfl rfl rfl rfl fun w65 S15 => ?_)
              refine ⟨fun h => absurd h (by decide), S15.modx (.inl G0_b23), ?_⟩
              replace H : Hp w w65 [.own A22 c22 3 1 (List.map encN ((([] : List Int) ++ a0.supply))), .own A21 c21 3 1 (List.map encN ((([] : List Int) ++ a0.demand))), .blk b23 25 [.slice A21 (((([] : List Int) ++ a0.demand)).length) c21, .slice A22 (((([] : List Int) ++ a0.supply)).length) c22, .slice none 0 0], .blk b2 25 [.slice none 0 0, .slice none 0 0, .slice none 0 0], .blk b1 25 [.slice A_a0_supply a0.supply.length c_a0_supply, .slice A_a0_demand a0.demand.length c_a0_demand, .slice A_a0_cost a0.cost.length c_a0_cost]] := H.stored 2 rfl S15
              replace R0 := H.ext
              replace hz := Nat.le_trans hz (Nat.le_of_eq S15.size.symm)
              replace H := H.pick (L' := [.own A21 c21 3 1 (List.map encN ((([] : List Int) ++ a0.demand))), .own A22 c22 3 1 (List.map encN ((([] : List Int) ++ a0.supply))), .blk b1 25 [.slice A_a0_supply a0.supply.length c_a0_supply, .slice A_a0_demand a0.demand.length c_a0_demand, .slice A_a0_cost a0.cost.length c_a0_cost], .blk b2 25 [.slice none 0 0, .slice none 0 0, .slice none 0 0], .blk b23 25 [.slice A21 (((([] : List Int) ++ a0.demand)).length) c21, .slice A22 (((([] : List Int) ++ a0.supply)).length) c22, .slice none 0 0]]) [1, 0, 4, 3, 2] (by decide) rfl
              replace R0 := H.ext
              refine DW.nil (jK15 _ _ ⟨_, ?_, ⟨((([] : List Int) ++ a0.demand)), ((([] : List Int) ++ a0.supply)), b23, A21, c21, A22, c22, F, rfl, H⟩⟩)
              exact ⟨rfl, rfl, rfl, rfl, trivial⟩
            ·
              refine DW.sole rfl rfl rfl (OW.buildSlice (e := 3) (vs := []) (cs := []) rfl (fun _ => by kernel_rfl) fun b26 w66 N26 => ?_)
              refine ⟨fun _ => N26.ext, ModX.ext N26.ext, ?_⟩
              have G0_b26 : w3.heap.size ≤ b26 := by rw [N26.at_]; exact hz
              replace H := H.made' (k := 1) (t := 3) (enc := encN) (l := ([] : List Int)) N26 N26.blk (fun _ => rfl) rfl (by first | decide | omega | (simp; done) | (simp; omega))
              replace R0 := H.ext
              replace hz := Nat.le_trans hz (Ext.size N26.ext)
              refine DW.sole rfl rfl rfl (OW.appendG (enc := encN) (l := ([] : List Int)) (xs := a0.demand) Ts22 (look_slice rfl (by first | rfl | (simp; done) | (simp; omega))) rfl (H.own 1 rfl) (h_a0_demand.ext R0) (fun _ => rfl) rfl rfl hg1 (by decide) fun A23 c23 w67 O23 M23 D23 => ?_)
              have G0_A23 := Fresh.nextZ (Fresh.at_ G0_b24) D23 hz
              refine ⟨fun h => absurd h (by decide), M23.modx (XB.newA (Fresh.at_ G0_b24)), ?_⟩
              replace H : Hp w w67 [.own (some ⟨b26, 0, none⟩) ((([] : List Int)).length) 3 1 (List.map encN (([] : List Int))), .own A23 c23 3 1 (List.map encN ((([] : List Int) ++ a0.demand))), .blk b23 25 [.slice none 0 0, .slice none 0 0, .slice none 0 0], .blk b2 25 [.slice none 0 0, .slice none 0 0, .slice none 0 0], .blk b1 25 [.slice A_a0_supply a0.supply.length c_a0_supply, .slice A_a0_demand a0.demand.length c_a0_demand, .slice A_a0_cost a0.cost.length c_a0_cost]] := H.mod 1 rfl M23 O23 D23
              replace R0 := H.ext
              replace hz := Nat.le_trans hz M23.size
              refine DW.sole rfl rfl rfl (OW.appendG (enc := encN) (l := ([] : List Int)) (xs := a0.supply) Ts22 (look_slice rfl (by first | rfl | (simp; done) | (simp; omega))) rfl (H.own 0 rfl) (h_a0_supply.ext R0) (fun _ => rfl) rfl rfl hg2 (by decide) fun A24 c24 w68 O24 M24 D24 => ?_)
              have G0_A24 := Fresh.nextZ (Fresh.at_ G0_b26) D24 hz
              refine ⟨fun h => absurd h (by decide), M24.modx (XB.newA (Fresh.at_ G0_b26)), ?_⟩
              replace H : Hp w w68 [.own A24 c24 3 1 (List.map encN ((([] : List Int) ++ a0.supply))), .own A23 c23 3 1 (List.map encN ((([] : List Int) ++ a0.demand))), .blk b23 25 [.slice none 0 0, .slice none 0 0, .slice none 0 0], .blk b2 25 [.slice none 0 0, .slice none 0 0, .slice none 0 0], .blk b1 25 [.slice A_a0_supply a0.supply.length c_a0_supply, .slice A_a0_demand a0.demand.length c_a0_demand, .slice A_a0_cost a0.cost.length c_a0_cost]] := H.mod 0 rfl M24 O24 D24
              replace R0 := H.ext
              replace hz := Nat.le_trans hz M24.size
              refine DW.thru rfl rfl rfl (fun _ EQ => RV.build (vs := [.slice A23 (((([] : List Int) ++ a0.demand)).length) c23, .slice A24 (((([] : List Int) ++ a0.supply)).length) c24]) (cs := [.slice A23 (((([] : List Int) ++ a0.demand)).length) c23, .slice A24 (((([] : List Int) ++ a0.supply)).length) c24, .slice none 0 0]) rfl (fun _ => by kernel_rfl)) ?_
              refine DW.sole rfl rfl rfl (OW.store Tk25 rfl rfl (H.blk 2 rfl) (off := 0) (vs := [.slice A23 (((([] : List Int) ++ a0.demand)).length) c23, .slice A24 (((([] : List Int) ++ a0.supply)).length) c24, .slice none 0 0]) rfl rfl rfl rfl rfl fun w69 S16 => ?_)
              refine ⟨fun h => absurd h (by decide), S16.modx (.inl G0_b23), ?_⟩
              replace H : Hp w w69 [.own A24 c24 3 1 (List.map encN ((([] : List Int) ++ a0.supply))), .own A23 c23 3 1 (List.map encN ((([] : List Int) ++ a0.demand))), .blk b23 25 [.slice A23 (((([] : List Int) ++ a0.demand)).length) c23, .slice A24 (((([] : List Int) ++ a0.supply)).length) c24, .slice none 0 0], .blk b2 25 [.slice none 0 0, .slice none 0 0, .slice none 0 0], .blk b1 25 [.slice A_a0_supply a0.supply.length c_a0_supply, .slice A_a0_demand a0.demand.length c_a0_demand, .slice A_a0_cost a0.cost.length c_a0_cost]] := H.stored 2 rfl S16
              replace R0 := H.ext
              replace hz := Nat.le_trans hz (Nat.le_of_eq S16.size.symm)
              replace H := H.pick (L' := [.own A23 c23 3 1 (List.map encN ((([] : List Int) ++ a0.demand))), .own A24 c24 3 1 (List.map encN ((([] : List Int) ++ a0.supply))), .blk b1 25 [.slice A_a0_supply a0.supply.length c_a0_supply, .slice A_a0_demand a0.demand.length c_a0_demand, .slice A_a0_cost a0.cost.length c_a0_cost], .blk b2 25 [.slice none 0 0, .slice none 0 0, .slice none 0 0], .blk b23 25 [.slice A23 (((([] : List Int) ++ a0.demand)).length) c23, .slice A24 (((([] : List Int) ++ a0.supply)).length) c24, .slice none 0 0]]) [1, 0, 4, 3, 2] (by decide) rfl
              replace R0 := H.ext
              refine DW.nil (jK15 _ _ ⟨_, ?_, ⟨((([] : List Int) ++ a0.demand)), ((([] : List Int) ++ a0.supply)), b23, A23, c23, A24, c24, F, rfl, H⟩⟩)
              exact ⟨rfl, rfl, rfl, rfl, trivial⟩
          ·
            refine DW.sole rfl rfl rfl (OW.buildSlice (e := 3) (vs := []) (cs := []) rfl (fun _ => by kernel_rfl) fun b27 w70 N27 => ?_)
            refine ⟨fun _ => N27.ext, ModX.ext N27.ext, ?_⟩
            have G0_b27 : w3.heap.size ≤ b27 := by rw [N27.at_]; exact hz
            replace H := H.made' (k := 1) (t := 3) (enc := encN) (l := ([] : List Int)) N27 N27.blk (fun _ => rfl) rfl (by first | decide | omega | (simp; done) | (simp; omega))
            replace R0 := H.ext
            replace hz := Nat.le_trans hz (Ext.size N27.ext)
            refine DW.sole rfl rfl rfl (OW.buildSlice (e := 3) (vs := []) (cs := []) rfl (fun _ => by kernel_rfl) fun b28 w71 N28 => ?_)
            refine ⟨fun _ => N28.ext, ModX.ext N28.ext, ?_⟩
            have G0_b28 : w3.heap.size ≤ b28 := by rw [N28.at_]; exact hz
            replace H := H.made' (k := 1) (t := 3) (enc := encN) (l := ([] : List Int)) N28 N28.blk (fun _ => rfl) rfl (by first | decide | omega | (simp; done) | (simp; omega))
            replace R0 := H.ext
            replace hz := Nat.le_trans hz (Ext.size N28.ext)
            refine DW.sole rfl rfl rfl (OW.appendG (enc := encN) (l := ([] : List Int)) (xs := a0.demand) Ts22 (look_slice rfl (by first | rfl | (simp; done) | (simp; omega))) rfl (H.own 0 rfl) (h_a0_demand.ext R0) (fun _ => rfl) rfl rfl hg1 (by decide) fun A25 c25 w72 O25 M25 D25 => ?_)
            have G0_A25 := Fresh.nextZ (Fresh.at_ G0_b28) D25 hz
            refine ⟨fun h => absurd h (by decide), M25.modx (XB.newA (Fresh.at_ G0_b28)), ?_⟩
            replace H : Hp w w72 [.own A25 c25 3 1 (List.map encN ((([] : List Int) ++ a0.demand))), .own (some ⟨b27, 0, none⟩) ((([] : List Int)).length) 3 1 (List.map encN (([] : List Int))), .blk b23 25 [.slice none 0 0, .slice none 0 0, .slice none 0 0], .blk b2 25 [.slice none 0 0, .slice none 0 0, .slice none 0 0], .blk b1 25 [.slice A_a0_supply a0.supply.length c_a0_supply, .slice A_a0_demand a0.demand.length c_a0_demand, .slice A_a0_cost a0.cost.length c_a0_cost]] := H.mod 0 rfl M25 O25 D25
            replace R0 := H.ext
            replace hz := Nat.le_trans hz M25.size
            refine DW.sole rfl rfl rfl (OW.appendG (enc := encN) (l := ([] : List Int)) (xs := a0.supply) Ts22 (look_slice rfl (by first | rfl | (simp; done) | (simp; omega))) rfl (H.own 1 rfl) (h_a0_supply.ext R0) (fun _ => rfl) rfl rfl hg2 (by decide) fun A26 c26 w73 O26 M26 D26 => ?_)
            have G0_A26 := Fresh.nextZ (Fresh.at_ G0_b27) D26 hz
            refine ⟨fun h => absurd h (by decide), M26.modx (XB.newA (Fresh.at_ G0_b27)), ?_⟩
            replace H : Hp w w73 [.own A25 c25 3 1 (List.map encN ((([] : List Int) ++ a0.demand))), .own A26 c26 3 1 (List.map encN ((([] : List Int) ++ a0.supply))), .blk b23 25 [.slice none 0 0, .slice none 0 0, .slice none 0 0], .blk b2 25 [.slice none 0 0, .slice none 0 0, .slice none 0 0], .blk b1 25 [.slice A_a0_supply a0.supply.length c_a0_supply, .slice A_a0_demand a0.demand.length c_a0_demand, .slice A_a0_cost a0.cost.length c_a0_cost]] := H.mod 1 rfl M26 O26 D26
            replace R0 := H.ext
            replace hz := Nat.le_trans hz M26.size
            refine DW.thru rfl rfl rfl (fun _ EQ => RV.build (vs := [.slice A25 (((([] : List Int) ++ a0.demand)).length) c25, .slice A26 (((([] : List Int) ++ a0.supply)).length) c26]) (cs := [.slice A25 (((([] : List Int) ++ a0.demand)).length) c25, .slice A26 (((([] : List Int) ++ a0.supply)).length) c26, .slice none 0 0]) rfl (fun _ => by kernel_rfl)) ?_
            refine DW.sole rfl rfl rfl (OW.store Tk25 rfl rfl (H.blk 2 rfl) (off := 0) (vs := [.slice A25 (((([] : List Int) ++ a0.demand)).length) c25, .slice A26 (((([] : List Int) ++ a0.supply)).length) c26, .slice none 0 0]) rfl rfl rfl rfl rfl fun w74 S17 => ?_)
            refine ⟨fun h => absurd h (by decide), S17.modx (.inl G0_b23), ?_⟩
            replace H : Hp w w74 [.own A25 c25 3 1 (List.map encN ((([] : List Int) ++ a0.demand))), .own A26 c26 3 1 (List.map encN ((([] : List Int) ++ a0.supply))), .blk b23 25 [.slice A25 (((([] : List Int) ++ a0.demand)).length) c25, .slice A26 (((([] : List Int) ++ a0.supply)).length) c26, .slice none 0 0], .blk b2 25 [.slice none 0 0, .slice none 0 0, .slice none 0 0], .blk b1 25 [.slice A_a0_supply a0.supply.length c_a0_supply, .slice A_a0_demand a0.demand.length c_a0_demand, .slice A_a0_cost a0.cost.length c_a0_cost]] := H.stored 2 rfl S17
            replace R0 := H.ext
            replace hz := Nat.le_trans hz (Nat.le_of_eq S17.size.symm)
            replace H := H.pick (L' := [.own A25 c25 3 1 (List.map encN ((([] : List Int) ++ a0.demand))), .own A26 c26 3 1 (List.map encN ((([] : List Int) ++ a0.supply))), .blk b1 25 [.slice A_a0_supply a0.supply.length c_a0_supply, .slice A_a0_demand a0.demand.length c_a0_demand, .slice A_a0_cost a0.cost.length c_a0_cost], .blk b2 25 [.slice none 0 0, .slice none 0 0, .slice none 0 0], .blk b23 25 [.slice A25 (((([] : List Int) ++ a0.demand)).length) c25, .slice A26 (((([] : List Int) ++ a0.supply)).length) c26, .slice none 0 0]]) [0, 1, 4, 3, 2] (by decide) rfl
            replace R0 := H.ext
            refine DW.nil (jK15 _ _ ⟨_, ?_, ⟨((([] : List Int) ++ a0.demand)), ((([] : List Int) ++ a0.supply)), b23, A25, c25, A26, c26, F, rfl, H⟩⟩)
            exact ⟨rfl, rfl, rfl, rfl, trivial⟩
  ·
    replace F := ite_n hp1 F
    have hq1 := dec_f hp1
    refine CW.condT rfl (not_t hq1) ?_
    refine CW.seq fun K8 hK8 => ?_
    refine CW.region ?_
    refine LW.pure rfl rfl (RV.build (vs := []) (cs := [.slice none 0 0, .slice none 0 0, .slice none 0 0]) rfl (fun _ => by kernel_rfl)) ?_
    refine LW.pure rfl rfl (RV.move rfl) ?_
    refine LW.go rfl rfl (OW.store Tk25 rfl rfl (H.blk 0 rfl) (off := 0) (vs := [.slice none 0 0, .slice none 0 0, .slice none 0 0]) rfl rfl rfl rfl rfl fun w75 S18 => ?_)
    replace H : Hp w w75 [.blk b2 25 [.slice none 0 0, .slice none 0 0, .slice none 0 0], .blk b1 25 [.slice A_a0_supply a0.supply.length c_a0_supply, .slice A_a0_demand a0.demand.length c_a0_demand, .slice A_a0_cost a0.cost.length c_a0_cost]] := H.stored 0 rfl S18
    replace R0 := H.ext
    refine LW.pure rfl rfl (RV.assign rfl) ?_
    refine LW.nil (hK8 _ _ ?_)
    refine CW.ret ?_
    obtain rfl := Option.some.inj F
    refine ⟨_, (ResOK.two ⟨_, rfl, run_loadVar_agg Tk25 (H.blk 0 rfl).cells (us := [.slice none 0 0, .slice none 0 0, .slice none 0 0]) rfl rfl⟩ rfl), ?_⟩
    replace H := H.nilOwn 3 1
    replace R0 := H.ext
    replace H := H.nilOwn 3 1
    replace R0 := H.ext
    replace H := H.nilTab encN 22 3 1
    replace R0 := H.ext
    replace H := H.pick (L' := [.own none 0 3 1 (List.map encN (([] : List Int))), .own none 0 3 1 (List.map encN (([] : List Int))), .tab none 0 22 ([]) 3 1 (encM encN (([] : List (List Int))))]) [2, 1, 0] (by decide) rfl
    replace R0 := H.ext
    exact ⟨none, 0, none, 0, none, 0, ([]), (by first | rfl | (simp; done) | (simp; omega)), H⟩
end Go.D7

set_option linter.unusedVariables false
set_option linter.unusedSimpArgs false
namespace Go.D7
open Go.Tb Go.Proofs Go.RowKit
theorem Tc47 : callable Try.prog 47 = true := by kernel_rfl
theorem Tc48 : callable Try.prog 48 = true := by kernel_rfl
set_option maxRecDepth 20000 in
set_option maxHeartbeats 1000000 in
theorem law07_BulkTurns_ok {a0 : Trade} {a1 : List (List Int)} {A_a0_supply : Option Addr} {c_a0_supply : Nat} {A_a0_demand : Option Addr} {c_a0_demand : Nat} {A_a0_cost : Option Addr} {c_a0_cost : Nat} {A_a1 : Option Addr} {c_a1 : Nat} {w : World} {res : Bool} (h_a0_supply : Sl w A_a0_supply c_a0_supply 1 (a0.supply.map encN)) (h_a0_demand : Sl w A_a0_demand c_a0_demand 1 (a0.demand.map encN)) (h_a0_cost : Sl2 w A_a0_cost c_a0_cost 1 encN a0.cost) (h_a1 : Sl2 w A_a1 c_a1 1 encN a1) (F : law07_BulkTurns a0 a1 = some res) : Calls Try.prog 13 #[.agg #[.slice A_a0_supply a0.supply.length c_a0_supply, .slice A_a0_demand a0.demand.length c_a0_demand, .slice A_a0_cost a0.cost.length c_a0_cost], .slice A_a1 a1.length c_a1] w (Rt w (.bool res)) := by
  refine calls_of_cw (args := [.agg #[.slice A_a0_supply a0.supply.length c_a0_supply, .slice A_a0_demand a0.demand.length c_a0_demand, .slice A_a0_cost a0.cost.length c_a0_cost], .slice A_a1 a1.length c_a1]) Try.func13 rfl rfl rfl rfl ?_
  have H := Hp.start w
  have R0 := H.ext
  unfold law07_BulkTurns at F
  refine CW.seq fun K1 hK1 => ?_
  refine CW.region ?_
  refine LW.go rfl rfl (OW.box rfl fun b1 w1 N1 => ?_)
  replace H := H.new N1 N1.blk
  replace R0 := H.ext
  refine LW.pure rfl rfl (RV.assign rfl) ?_
  refine LW.nil (hK1 _ _ ?_)
  refine CW.seq fun K2 hK2 => ?_
  refine CW.seq fun K3 hK3 => ?_
  obtain ⟨r11, hr11, F⟩ := bnd_some F
  refine CW.region ?_
  refine LW.pure rfl rfl (RV.loadA [.slice A_a0_supply a0.supply.length c_a0_supply, .slice A_a0_demand a0.demand.length c_a0_demand, .slice A_a0_cost a0.cost.length c_a0_cost] Tk25 rfl (H.blk 0 rfl).cells rfl rfl) ?_
  refine LW.pure rfl rfl (RV.move rfl) ?_
  refine LW.go rfl rfl (OW.buildSlice (e := 23) (vs := [.slice A_a1 a1.length c_a1]) (cs := [.slice A_a1 a1.length c_a1]) rfl (fun _ => by kernel_rfl) fun b2 w2 N2 => ?_)
  replace H := H.made' (k := 1) (t := 23) (enc := encH) (l := [((A_a1, c_a1), a1)]) N2 (by have q := N2.blk; simp only [List.flatMap_cons, List.flatMap_nil, encH, List.append_nil, List.cons_append, List.nil_append]; first | done | exact q) (fun _ => rfl) rfl (by first | decide | omega | (simp; done) | (simp; omega))
  replace R0 := H.ext
  have hS1 : Sl3 w2 (some ⟨b2, 0, none⟩) 1 1 encN [a1] := Sl3.one (H.own 0 rfl).sl (h_a1.ext R0)
  refine LW.go rfl rfl (OW.call Tc17 (evs_cast rfl (by first | rfl | (simp; done) | (simp; omega))) (law07_Long_ok (a0 := a0) (a1 := [a1]) (h_a0_supply.ext R0) (h_a0_demand.ext R0) (h_a0_cost.ext R0) hS1 hr11) ?_)
  rintro _ w3 ⟨rfl, E1⟩
  refine ⟨_, rfl, ?_⟩
  have hS1 := hS1.ext E1
  replace H := H.grow E1
  replace R0 := H.ext
  refine LW.nil (hK3 _ _ ?_)
  by_cases hp1 : r11 = true
  ·
    replace F := ite_y hp1 F
    have hq1 : r11 = true := hp1
    refine CW.condT rfl hq1 ?_
    refine CW.seq fun K4 hK4 => ?_
    obtain ⟨r12, hr12, F⟩ := bnd_some F
    refine CW.region ?_
    refine LW.go rfl rfl (OW.call Tc18 rfl (law07_sane_ok hr12) ?_)
    rintro _ w4 ⟨rfl, E2⟩
    refine ⟨_, rfl, ?_⟩
    have hS1 := hS1.ext E2
    replace H := H.grow E2
    replace R0 := H.ext
    refine LW.pure rfl rfl (RV.assign rfl) ?_
    refine LW.nil (hK4 _ _ ?_)
    refine CW.ret ?_
    obtain rfl := Option.some.inj F
    refine ⟨_, (ResOK.one rfl), ?_⟩
    refine ⟨(by first | rfl | simp), R0⟩
  ·
    replace F := ite_n hp1 F
    have hq1 : r11 = false := raw_f hp1
    refine CW.condF rfl hq1 ?_
    refine CW.skip (hK2 _ _ ?_)
    refine CW.seq fun K5 hK5 => ?_
    obtain ⟨r1, hr1, F⟩ := bnd_some F
    refine CW.region ?_
    refine LW.pure rfl rfl (RV.loadA [.slice A_a0_supply a0.supply.length c_a0_supply, .slice A_a0_demand a0.demand.length c_a0_demand, .slice A_a0_cost a0.cost.length c_a0_cost] Tk25 rfl (H.blk 1 rfl).cells rfl rfl) ?_
    refine LW.go rfl rfl (OW.call Tc47 rfl (bulk_Turn_ok (a0 := a0) (h_a0_supply.ext R0) (h_a0_demand.ext R0) (h_a0_cost.ext R0) hr1) ?_)
    rintro _ w5 ⟨A21_0_supply, c21_0_supply, A21_0_demand, c21_0_demand, A21_0_cost, c21_0_cost, hs21_0_cost, rfl, E3⟩
    refine ⟨_, rfl, ?_⟩
    have hS1 := hS1.ext E3.ext
    replace H : Hp w w5 [.own A21_0_supply c21_0_supply 3 1 (List.map encN r1.1.supply), .own A21_0_demand c21_0_demand 3 1 (List.map encN r1.1.demand), .tab A21_0_cost c21_0_cost 22 hs21_0_cost 3 1 (encM encN r1.1.cost), .own (some ⟨b2, 0, none⟩) (([((A_a1, c_a1), a1)]).length) 23 1 (List.map encH ([((A_a1, c_a1), a1)])), .blk b1 25 [.slice A_a0_supply a0.supply.length c_a0_supply, .slice A_a0_demand a0.demand.length c_a0_demand, .slice A_a0_cost a0.cost.length c_a0_cost]] := H.append E3
    replace R0 := H.ext
    refine LW.pure rfl rfl (RV.move rfl) ?_
    refine LW.pure rfl rfl (RV.extract rfl rfl) ?_
    refine LW.pure rfl rfl (RV.extract rfl rfl) ?_
    refine LW.go rfl rfl (OW.alloc Tz25 fun b3 w6 N3 => ?_)
    have hS1 := hS1.ext N3.ext
    replace H := H.new N3 N3.blk
    replace R0 := H.ext
    refine LW.go rfl rfl (OW.store Tk25 rfl rfl (H.blk 0 rfl) (off := 0) (vs := [.slice A21_0_supply r1.1.supply.length c21_0_supply, .slice A21_0_demand r1.1.demand.length c21_0_demand, .slice A21_0_cost r1.1.cost.length c21_0_cost]) rfl rfl rfl rfl rfl fun w7 S1 => ?_)
    replace H : Hp w w7 [.blk b3 25 [.slice A21_0_supply r1.1.supply.length c21_0_supply, .slice A21_0_demand r1.1.demand.length c21_0_demand, .slice A21_0_cost r1.1.cost.length c21_0_cost], .own A21_0_supply c21_0_supply 3 1 (List.map encN r1.1.supply), .own A21_0_demand c21_0_demand 3 1 (List.map encN r1.1.demand), .tab A21_0_cost c21_0_cost 22 hs21_0_cost 3 1 (encM encN r1.1.cost), .own (some ⟨b2, 0, none⟩) (([((A_a1, c_a1), a1)]).length) 23 1 (List.map encH ([((A_a1, c_a1), a1)])), .blk b1 25 [.slice A_a0_supply a0.supply.length c_a0_supply, .slice A_a0_demand a0.demand.length c_a0_demand, .slice A_a0_cost a0.cost.length c_a0_cost]] := H.stored 0 rfl S1
    replace R0 := H.ext
    refine LW.pure rfl rfl (RV.assign rfl) ?_
    refine LW.nil (hK5 _ _ ?_)
    refine CW.seq fun K6 hK6 => ?_
    obtain ⟨r13, hr13, F⟩ := bnd_some F
    refine CW.region ?_
    refine LW.pure rfl rfl (RV.loadA [.slice A_a0_supply a0.supply.length c_a0_supply, .slice A_a0_demand a0.demand.length c_a0_demand, .slice A_a0_cost a0.cost.length c_a0_cost] Tk25 rfl (H.blk 5 rfl).cells rfl rfl) ?_
    refine LW.go rfl rfl (OW.call Tc48 rfl (ref07_Turn_ok (a0 := a0) (h_a0_supply.ext R0) (h_a0_demand.ext R0) (h_a0_cost.ext R0) hr13) ?_)
    rintro _ w8 ⟨A23_0_supply, c23_0_supply, A23_0_demand, c23_0_demand, A23_0_cost, c23_0_cost, hs23_0_cost, rfl, E4⟩
    refine ⟨_, rfl, ?_⟩
    replace H : Hp w w8 [.own A23_0_supply c23_0_supply 3 1 (List.map encN r13.1.supply), .own A23_0_demand c23_0_demand 3 1 (List.map encN r13.1.demand), .tab A23_0_cost c23_0_cost 22 hs23_0_cost 3 1 (encM encN r13.1.cost), .blk b3 25 [.slice A21_0_supply r1.1.supply.length c21_0_supply, .slice A21_0_demand r1.1.demand.length c21_0_demand, .slice A21_0_cost r1.1.cost.length c21_0_cost], .own A21_0_supply c21_0_supply 3 1 (List.map encN r1.1.supply), .own A21_0_demand c21_0_demand 3 1 (List.map encN r1.1.demand), .tab A21_0_cost c21_0_cost 22 hs21_0_cost 3 1 (encM encN r1.1.cost), .own (some ⟨b2, 0, none⟩) (([((A_a1, c_a1), a1)]).length) 23 1 (List.map encH ([((A_a1, c_a1), a1)])), .blk b1 25 [.slice A_a0_supply a0.supply.length c_a0_supply, .slice A_a0_demand a0.demand.length c_a0_demand, .slice A_a0_cost a0.cost.length c_a0_cost]] := H.append E4
    replace R0 := H.ext
    refine LW.pure rfl rfl (RV.move rfl) ?_
    refine LW.pure rfl rfl (RV.extract rfl rfl) ?_
    refine LW.pure rfl rfl (RV.extract rfl rfl) ?_
    refine LW.go rfl rfl (OW.alloc Tz25 fun b4 w9 N4 => ?_)
    replace H := H.new N4 N4.blk
    replace R0 := H.ext
    refine LW.go rfl rfl (OW.store Tk25 rfl rfl (H.blk 0 rfl) (off := 0) (vs := [.slice A23_0_supply r13.1.supply.length c23_0_supply, .slice A23_0_demand r13.1.demand.length c23_0_demand, .slice A23_0_cost r13.1.cost.length c23_0_cost]) rfl rfl rfl rfl rfl fun w10 S2 => ?_)
    replace H : Hp w w10 [.blk b4 25 [.slice A23_0_supply r13.1.supply.length c23_0_supply, .slice A23_0_demand r13.1.demand.length c23_0_demand, .slice A23_0_cost r13.1.cost.length c23_0_cost], .own A23_0_supply c23_0_supply 3 1 (List.map encN r13.1.supply), .own A23_0_demand c23_0_demand 3 1 (List.map encN r13.1.demand), .tab A23_0_cost c23_0_cost 22 hs23_0_cost 3 1 (encM encN r13.1.cost), .blk b3 25 [.slice A21_0_supply r1.1.supply.length c21_0_supply, .slice A21_0_demand r1.1.demand.length c21_0_demand, .slice A21_0_cost r1.1.cost.length c21_0_cost], .own A21_0_supply c21_0_supply 3 1 (List.map encN r1.1.supply), .own A21_0_demand c21_0_demand 3 1 (List.map encN r1.1.demand), .tab A21_0_cost c21_0_cost 22 hs21_0_cost 3 1 (encM encN r1.1.cost), .own (some ⟨b2, 0, none⟩) (([((A_a1, c_a1), a1)]).length) 23 1 (List.map encH ([((A_a1, c_a1), a1)])), .blk b1 25 [.slice A_a0_supply a0.supply.length c_a0_supply, .slice A_a0_demand a0.demand.length c_a0_demand, .slice A_a0_cost a0.cost.length c_a0_cost]] := H.stored 0 rfl S2
    replace R0 := H.ext
    refine LW.pure rfl rfl (RV.assign rfl) ?_
    refine LW.nil (hK6 _ _ ?_)
    refine CW.seq fun K7 hK7 => ?_
    refine CW.seqJ (fun ρ wl1 => (∃ (t40_1 : Bool), law07_BulkTurns_k2 a0 a1 r1 t40_1 = some res ∧ ρ = [(1, .slice A_a1 a1.length c_a1), (2, .pointer (some (⟨b1, 0, none⟩))), (4, .bool false), (5, .pointer (some (⟨b3, 0, none⟩))), (6, .int .i64 r1.2), (40, .bool t40_1)] ∧ Hp w wl1 [.own A21_0_supply c21_0_supply 3 1 (List.map encN r1.1.supply), .own A21_0_demand c21_0_demand 3 1 (List.map encN r1.1.demand), .tab A21_0_cost c21_0_cost 22 hs21_0_cost 3 1 (encM encN r1.1.cost), .blk b1 25 [.slice A_a0_supply a0.supply.length c_a0_supply, .slice A_a0_demand a0.demand.length c_a0_demand, .slice A_a0_cost a0.cost.length c_a0_cost], .blk b3 25 [.slice A21_0_supply r1.1.supply.length c21_0_supply, .slice A21_0_demand r1.1.demand.length c21_0_demand, .slice A21_0_cost r1.1.cost.length c21_0_cost]])) ?_ ?_
    ·
      rintro _ wl1 ⟨t40_1, F, rfl, H⟩
      have R0 := H.ext
      unfold law07_BulkTurns_k2 at F
      by_cases hp2 : t40_1 = true
      ·
        replace F := ite_y hp2 F
        have hq2 : t40_1 = true := hp2
        refine CW.condT rfl hq2 ?_
        refine CW.seq fun K8 hK8 => ?_
        refine CW.region ?_
        refine LW.pure rfl rfl (RV.assign rfl) ?_
        refine LW.nil (hK8 _ _ ?_)
        refine CW.ret ?_
        obtain rfl := Option.some.inj F
        refine ⟨_, (ResOK.one rfl), ?_⟩
        refine ⟨(by first | rfl | simp), R0⟩
      ·
        replace F := ite_n hp2 F
        have hq2 : t40_1 = false := raw_f hp2
        refine CW.condF rfl hq2 ?_
        refine CW.skip (hK7 _ _ ?_)
        refine CW.seq fun K9 hK9 => ?_
        refine CW.seq fun K10 hK10 => ?_
        refine CW.region ?_
        refine LW.pure rfl rfl (RV.move rfl) ?_
        refine LW.pure rfl rfl (RV.nei rfl rfl) ?_
        refine LW.nil (hK10 _ _ ?_)
        by_cases hp3 : r1.2 = 0
        ·
          replace F := ite_y hp3 F
          have hq3 := dec_t hp3
          refine CW.condF rfl (not_f hq3) ?_
          refine CW.skip (hK9 _ _ ?_)
          refine CW.seq fun K11 hK11 => ?_
          obtain ⟨r8, hr8, F⟩ := bnd_some F
          refine CW.region ?_
          refine LW.pure rfl rfl (RV.loadA [.slice A21_0_supply r1.1.supply.length c21_0_supply, .slice A21_0_demand r1.1.demand.length c21_0_demand, .slice A21_0_cost r1.1.cost.length c21_0_cost] Tk25 rfl (H.blk 4 rfl).cells rfl rfl) ?_
          refine LW.go rfl rfl (OW.call Tc21 rfl (bulk_Least_ok (a0 := r1.1) (H.own 0 rfl).sl (H.own 1 rfl).sl (H.tab 2 rfl).sl2 hr8) ?_)
          rintro _ w11 ⟨rfl, E5⟩
          refine ⟨_, rfl, ?_⟩
          replace H := H.grow E5
          replace R0 := H.ext
          refine LW.pure rfl rfl (RV.move rfl) ?_
          refine LW.pure rfl rfl (RV.extract rfl rfl) ?_
          refine LW.pure rfl rfl (RV.extract rfl rfl) ?_
          refine LW.pure rfl rfl (RV.assign rfl) ?_
          refine LW.pure rfl rfl (RV.assign rfl) ?_
          refine LW.nil (hK11 _ _ ?_)
          refine CW.seq fun K12 hK12 => ?_
          obtain ⟨r9, hr9, F⟩ := bnd_some F
          refine CW.region ?_
          refine LW.pure rfl rfl (RV.loadA [.slice A_a0_supply a0.supply.length c_a0_supply, .slice A_a0_demand a0.demand.length c_a0_demand, .slice A_a0_cost a0.cost.length c_a0_cost] Tk25 rfl (H.blk 3 rfl).cells rfl rfl) ?_
          refine LW.go rfl rfl (OW.call Tc21 rfl (bulk_Least_ok (a0 := a0) (h_a0_supply.ext R0) (h_a0_demand.ext R0) (h_a0_cost.ext R0) hr9) ?_)
          rintro _ w12 ⟨rfl, E6⟩
          refine ⟨_, rfl, ?_⟩
          replace H := H.grow E6
          replace R0 := H.ext
          refine LW.pure rfl rfl (RV.move rfl) ?_
          refine LW.pure rfl rfl (RV.extract rfl rfl) ?_
          refine LW.pure rfl rfl (RV.extract rfl rfl) ?_
          refine LW.pure rfl rfl (RV.assign rfl) ?_
          refine LW.pure rfl rfl (RV.assign rfl) ?_
          refine LW.nil (hK12 _ _ ?_)
          refine CW.seq fun K13 hK13 => ?_
          refine CW.seqJ (fun ρ wl2 => (∃ (t64_1 : Bool), law07_BulkTurns_k1 a0 a1 r1 t64_1 = some res ∧ ρ = [(1, .slice A_a1 a1.length c_a1), (2, .pointer (some (⟨b1, 0, none⟩))), (4, .bool false), (5, .pointer (some (⟨b3, 0, none⟩))), (64, .bool t64_1)] ∧ Hp w wl2 [.own A21_0_supply c21_0_supply 3 1 (List.map encN r1.1.supply), .own A21_0_demand c21_0_demand 3 1 (List.map encN r1.1.demand), .tab A21_0_cost c21_0_cost 22 hs21_0_cost 3 1 (encM encN r1.1.cost), .blk b1 25 [.slice A_a0_supply a0.supply.length c_a0_supply, .slice A_a0_demand a0.demand.length c_a0_demand, .slice A_a0_cost a0.cost.length c_a0_cost], .blk b3 25 [.slice A21_0_supply r1.1.supply.length c21_0_supply, .slice A21_0_demand r1.1.demand.length c21_0_demand, .slice A21_0_cost r1.1.cost.length c21_0_cost]])) ?_ ?_
          ·
            rintro _ wl2 ⟨t64_1, F, rfl, H⟩
            have R0 := H.ext
            unfold law07_BulkTurns_k1 at F
            by_cases hp4 : t64_1 = true
            ·
              replace F := ite_y hp4 F
              have hq4 : t64_1 = true := hp4
              refine CW.condT rfl hq4 ?_
              refine CW.seq fun K14 hK14 => ?_
              refine CW.region ?_
              refine LW.pure rfl rfl (RV.assign rfl) ?_
              refine LW.nil (hK14 _ _ ?_)
              refine CW.ret ?_
              obtain rfl := Option.some.inj F
              refine ⟨_, (ResOK.one rfl), ?_⟩
              refine ⟨(by first | rfl | simp), R0⟩
            ·
              replace F := ite_n hp4 F
              have hq4 : t64_1 = false := raw_f hp4
              refine CW.condF rfl hq4 ?_
              refine CW.skip (hK13 _ _ ?_)
              refine CW.seq fun K15 hK15 => ?_
              refine CW.seq fun K16 hK16 => ?_
              obtain ⟨r2, hr2, F⟩ := bnd_some F
              refine CW.region ?_
              refine LW.pure rfl rfl (RV.loadA [.slice A_a0_supply a0.supply.length c_a0_supply, .slice A_a0_demand a0.demand.length c_a0_demand, .slice A_a0_cost a0.cost.length c_a0_cost] Tk25 rfl (H.blk 3 rfl).cells rfl rfl) ?_
              refine LW.pure rfl rfl (RV.move rfl) ?_
              refine LW.go rfl rfl (OW.call Tc34 rfl (bulk_CheckPlan_ok (a0 := a0) (a1 := a1) (h_a0_supply.ext R0) (h_a0_demand.ext R0) (h_a0_cost.ext R0) (h_a1.ext R0) hr2) ?_)
              rintro _ w13 ⟨rfl, E7⟩
              refine ⟨_, rfl, ?_⟩
              replace H := H.grow E7
              replace R0 := H.ext
              refine LW.pure rfl rfl (RV.nei rfl rfl) ?_
              refine LW.nil (hK16 _ _ ?_)
              by_cases hp5 : r2 = 0
              ·
                replace F := ite_y hp5 F
                have hq5 := dec_t hp5
                refine CW.condF rfl (not_f hq5) ?_
                refine CW.skip (hK15 _ _ ?_)
                refine CW.seq fun K17 hK17 => ?_
                obtain ⟨r3, hr3, F⟩ := bnd_some F
                obtain ⟨r4, hr4, F⟩ := bnd_some F
                refine CW.draw [] (fun _ => True) (.cons 0 1 (.cons 1 1 (.cons 2 0 (.cons 3 0 (.cons 4 1 (.cons 5 1 (.cons 6 1 (.cons 7 1 (.cons 8 1 .nil))))))))) mixed (by kernel_rfl) fun w14 E8 => ?_
                replace H := H.grow E8
                replace R0 := H.ext
                refine DW.fix rfl rfl rfl (fun _ EQ => RV.loadA [.slice A21_0_supply r1.1.supply.length c21_0_supply, .slice A21_0_demand r1.1.demand.length c21_0_demand, .slice A21_0_cost r1.1.cost.length c21_0_cost] Tk25 rfl ((H.grow EQ).blk 4 rfl).cells rfl rfl) ?_
                refine DW.fix rfl rfl rfl (fun _ EQ => RV.move rfl) ?_
                refine DW.sole rfl rfl rfl (OW.call Tc49 rfl (ref07_Turned_ok (a0 := a1) (h_a1.ext R0) hr3) ?_)
                rintro _ w15 ⟨A33_0, c33_0, hs33_0, rfl, E9⟩
                refine ⟨_, rfl, fun _ => E9.ext, ModX.ext E9.ext, ?_⟩
                replace H : Hp w w15 [.tab A33_0 c33_0 22 hs33_0 3 1 (encM encN r3), .own A21_0_supply c21_0_supply 3 1 (List.map encN r1.1.supply), .own A21_0_demand c21_0_demand 3 1 (List.map encN r1.1.demand), .tab A21_0_cost c21_0_cost 22 hs21_0_cost 3 1 (encM encN r1.1.cost), .blk b1 25 [.slice A_a0_supply a0.supply.length c_a0_supply, .slice A_a0_demand a0.demand.length c_a0_demand, .slice A_a0_cost a0.cost.length c_a0_cost], .blk b3 25 [.slice A21_0_supply r1.1.supply.length c21_0_supply, .slice A21_0_demand r1.1.demand.length c21_0_demand, .slice A21_0_cost r1.1.cost.length c21_0_cost]] := H.append E9
                replace R0 := H.ext
                refine DW.sole rfl rfl rfl (OW.call Tc37 rfl (bulk_Cost_ok (a0 := r1.1) (a1 := r3) (H.own 1 rfl).sl (H.own 2 rfl).sl (H.tab 3 rfl).sl2 (H.tab 0 rfl).sl2 hr4) ?_)
                rintro _ w16 ⟨rfl, E10⟩
                refine ⟨_, rfl, fun _ => E10, ModX.ext E10, ?_⟩
                replace H := H.grow E10
                replace R0 := H.ext
                refine DW.fix rfl rfl rfl (fun _ EQ => RV.move rfl) ?_
                refine DW.fix rfl rfl rfl (fun _ EQ => RV.extract rfl rfl) ?_
                refine DW.fix rfl rfl rfl (fun _ EQ => RV.extract rfl rfl) ?_
                refine DW.fix rfl rfl rfl (fun _ EQ => RV.assign rfl) ?_
                refine DW.fix rfl rfl rfl (fun _ EQ => RV.assign rfl) ?_
                refine DW.nil (hK17 _ _ ?_)
                refine CW.seq fun K18 hK18 => ?_
                obtain ⟨r5, hr5, F⟩ := bnd_some F
                refine CW.region ?_
                refine LW.pure rfl rfl (RV.loadA [.slice A_a0_supply a0.supply.length c_a0_supply, .slice A_a0_demand a0.demand.length c_a0_demand, .slice A_a0_cost a0.cost.length c_a0_cost] Tk25 rfl (H.blk 4 rfl).cells rfl rfl) ?_
                refine LW.pure rfl rfl (RV.move rfl) ?_
                refine LW.go rfl rfl (OW.call Tc37 rfl (bulk_Cost_ok (a0 := a0) (a1 := a1) (h_a0_supply.ext R0) (h_a0_demand.ext R0) (h_a0_cost.ext R0) (h_a1.ext R0) hr5) ?_)
                rintro _ w17 ⟨rfl, E11⟩
                refine ⟨_, rfl, ?_⟩
                replace H := H.grow E11
                replace R0 := H.ext
                refine LW.pure rfl rfl (RV.move rfl) ?_
                refine LW.pure rfl rfl (RV.extract rfl rfl) ?_
                refine LW.pure rfl rfl (RV.extract rfl rfl) ?_
                refine LW.pure rfl rfl (RV.assign rfl) ?_
                refine LW.pure rfl rfl (RV.assign rfl) ?_
                refine LW.nil (hK18 _ _ ?_)
                refine CW.seq fun K19 hK19 => ?_
                by_cases hp6 : r4.2 = 0
                ·
                  replace F := ite_y hp6 F
                  have hq6 := dec_t hp6
                  by_cases hp7 : r5.2 = 0
                  ·
                    replace F := ite_y hp7 F
                    have hq7 := dec_t hp7
                    by_cases hp8 : r4.1 = r5.1
                    ·
                      replace F := ite_y hp8 F
                      have hq8 := dec_t hp8
                      obtain ⟨r6, hr6, F⟩ := bnd_some F
                      refine CW.region ?_
                      refine LW.pure rfl rfl (RV.move rfl) ?_
                      refine LW.pure rfl rfl (RV.eqi rfl rfl) ?_
                      refine LW.pure rfl rfl (RV.move rfl) ?_
                      refine LW.pureYB rfl rfl rfl rfl hq6 (RV.move rfl) ?_
                      refine LW.pureYB rfl rfl rfl rfl hq6 (RV.eqi rfl rfl) ?_
                      refine LW.pure rfl rfl (RV.pickTB rfl hq6 rfl) ?_
                      refine LW.pure rfl rfl (RV.move rfl) ?_
                      refine LW.pureYB rfl rfl rfl rfl hq7 (RV.move rfl) ?_
                      refine LW.pureYB rfl rfl rfl rfl hq7 (RV.move rfl) ?_
                      refine LW.pureYB rfl rfl rfl rfl hq7 (RV.eqi rfl rfl) ?_
                      refine LW.pure rfl rfl (RV.pickTB rfl hq7 rfl) ?_
                      refine LW.pure rfl rfl (RV.move rfl) ?_
                      refine LW.yesB rfl rfl rfl rfl hq8 (OW.call Tc18 rfl (law07_sane_ok hr6) ?_)
                      rintro _ w18 ⟨rfl, E12⟩
                      refine ⟨_, rfl, ?_⟩
                      replace H := H.grow E12
                      replace R0 := H.ext
                      refine LW.pure rfl rfl (RV.pickTB rfl hq8 rfl) ?_
                      refine LW.pure rfl rfl (RV.assign rfl) ?_
                      refine LW.nil (hK19 _ _ ?_)
                      refine CW.ret ?_
                      obtain rfl := Option.some.inj F
                      refine ⟨_, (ResOK.one rfl), ?_⟩
                      refine ⟨(by first | rfl | simp), R0⟩
                    ·
                      replace F := ite_n hp8 F
                      have hq8 := dec_f hp8
                      refine CW.region ?_
                      refine LW.pure rfl rfl (RV.move rfl) ?_
                      refine LW.pure rfl rfl (RV.eqi rfl rfl) ?_
                      refine LW.pure rfl rfl (RV.move rfl) ?_
                      refine LW.pureYB rfl rfl rfl rfl hq6 (RV.move rfl) ?_
                      refine LW.pureYB rfl rfl rfl rfl hq6 (RV.eqi rfl rfl) ?_
                      refine LW.pure rfl rfl (RV.pickTB rfl hq6 rfl) ?_
                      refine LW.pure rfl rfl (RV.move rfl) ?_
                      refine LW.pureYB rfl rfl rfl rfl hq7 (RV.move rfl) ?_
                      refine LW.pureYB rfl rfl rfl rfl hq7 (RV.move rfl) ?_
                      refine LW.pureYB rfl rfl rfl rfl hq7 (RV.eqi rfl rfl) ?_
                      refine LW.pure rfl rfl (RV.pickTB rfl hq7 rfl) ?_
                      refine LW.pure rfl rfl (RV.move rfl) ?_
                      refine LW.noB rfl rfl rfl rfl (ne_beq (v := false) hq8 rfl) ?_
                      refine LW.pure rfl rfl (RV.pickFB rfl hq8 rfl) ?_
                      refine LW.pure rfl rfl (RV.assign rfl) ?_
                      refine LW.nil (hK19 _ _ ?_)
                      refine CW.ret ?_
                      obtain rfl := Option.some.inj F
                      refine ⟨_, (ResOK.one rfl), ?_⟩
                      refine ⟨(by first | rfl | simp), R0⟩
                  ·
                    replace F := ite_n hp7 F
                    have hq7 := dec_f hp7
                    refine CW.region ?_
                    refine LW.pure rfl rfl (RV.move rfl) ?_
                    refine LW.pure rfl rfl (RV.eqi rfl rfl) ?_
                    refine LW.pure rfl rfl (RV.move rfl) ?_
                    refine LW.pureYB rfl rfl rfl rfl hq6 (RV.move rfl) ?_
                    refine LW.pureYB rfl rfl rfl rfl hq6 (RV.eqi rfl rfl) ?_
                    refine LW.pure rfl rfl (RV.pickTB rfl hq6 rfl) ?_
                    refine LW.pure rfl rfl (RV.move rfl) ?_
                    refine LW.noB rfl rfl rfl rfl (ne_beq (v := false) hq7 rfl) ?_
                    refine LW.noB rfl rfl rfl rfl (ne_beq (v := false) hq7 rfl) ?_
                    refine LW.noB rfl rfl rfl rfl (ne_beq (v := false) hq7 rfl) ?_
                    refine LW.pure rfl rfl (RV.pickFB rfl hq7 rfl) ?_
                    refine LW.pure rfl rfl (RV.move rfl) ?_
                    refine LW.noB rfl rfl rfl rfl (ne_beq (v := false) rfl rfl) ?_
                    refine LW.pure rfl rfl (RV.pickFB rfl rfl rfl) ?_
                    refine LW.pure rfl rfl (RV.assign rfl) ?_
                    refine LW.nil (hK19 _ _ ?_)
                    refine CW.ret ?_
                    obtain rfl := Option.some.inj F
                    refine ⟨_, (ResOK.one rfl), ?_⟩
                    refine ⟨(by first | rfl | simp), R0⟩
                ·
                  replace F := ite_n hp6 F
                  have hq6 := dec_f hp6
                  refine CW.region ?_
                  refine LW.pure rfl rfl (RV.move rfl) ?_
                  refine LW.pure rfl rfl (RV.eqi rfl rfl) ?_
                  refine LW.pure rfl rfl (RV.move rfl) ?_
                  refine LW.noB rfl rfl rfl rfl (ne_beq (v := false) hq6 rfl) ?_
                  refine LW.noB rfl rfl rfl rfl (ne_beq (v := false) hq6 rfl) ?_
                  refine LW.pure rfl rfl (RV.pickFB rfl hq6 rfl) ?_
                  refine LW.pure rfl rfl (RV.move rfl) ?_
                  refine LW.noB rfl rfl rfl rfl (ne_beq (v := false) rfl rfl) ?_
                  refine LW.noB rfl rfl rfl rfl (ne_beq (v := false) rfl rfl) ?_
                  refine LW.noB rfl rfl rfl rfl (ne_beq (v := false) rfl rfl) ?_
                  refine LW.pure rfl rfl (RV.pickFB rfl rfl rfl) ?_
                  refine LW.pure rfl rfl (RV.move rfl) ?_
                  refine LW.noB rfl rfl rfl rfl (ne_beq (v := false) rfl rfl) ?_
                  refine LW.pure rfl rfl (RV.pickFB rfl rfl rfl) ?_
                  refine LW.pure rfl rfl (RV.assign rfl) ?_
                  refine LW.nil (hK19 _ _ ?_)
                  refine CW.ret ?_
                  obtain rfl := Option.some.inj F
                  refine ⟨_, (ResOK.one rfl), ?_⟩
                  refine ⟨(by first | rfl | simp), R0⟩
              ·
                replace F := ite_n hp5 F
                have hq5 := dec_f hp5
                refine CW.condT rfl (not_t hq5) ?_
                refine CW.seq fun K20 hK20 => ?_
                obtain ⟨r7, hr7, F⟩ := bnd_some F
                refine CW.region ?_
                refine LW.go rfl rfl (OW.call Tc18 rfl (law07_sane_ok hr7) ?_)
                rintro _ w19 ⟨rfl, E13⟩
                refine ⟨_, rfl, ?_⟩
                replace H := H.grow E13
                replace R0 := H.ext
                refine LW.pure rfl rfl (RV.assign rfl) ?_
                refine LW.nil (hK20 _ _ ?_)
                refine CW.ret ?_
                obtain rfl := Option.some.inj F
                refine ⟨_, (ResOK.one rfl), ?_⟩
                refine ⟨(by first | rfl | simp), R0⟩
          ·
            intro K21 hK21 jK44
            by_cases hp9 : r8.2 = 0
            ·
              replace F := ite_y hp9 F
              have hq9 := dec_t hp9
              by_cases hp10 : r9.2 = 0
              ·
                replace F := ite_y hp10 F
                have hq10 := dec_t hp10
                refine CW.region ?_
                refine LW.pure rfl rfl (RV.move rfl) ?_
                refine LW.pure rfl rfl (RV.nei rfl rfl) ?_
                refine LW.pure rfl rfl (RV.move rfl) ?_
                refine LW.pureYB rfl rfl rfl rfl (not_f hq9) (RV.move rfl) ?_
                refine LW.pureYB rfl rfl rfl rfl (not_f hq9) (RV.nei rfl rfl) ?_
                refine LW.pure rfl rfl (RV.pickFB rfl (not_f hq9) rfl) ?_
                refine LW.pure rfl rfl (RV.move rfl) ?_
                refine LW.pureYB rfl rfl rfl rfl (not_f hq10) (RV.move rfl) ?_
                refine LW.pureYB rfl rfl rfl rfl (not_f hq10) (RV.move rfl) ?_
                refine LW.pureYB rfl rfl rfl rfl (not_f hq10) (RV.nei rfl rfl) ?_
                refine LW.pure rfl rfl (RV.pickFB rfl (not_f hq10) rfl) ?_
                refine LW.nil (jK44 _ _ ⟨_, ?_, ⟨(!(decide (r8.1 = r9.1))), F, rfl, H⟩⟩)
                exact ⟨rfl, rfl, rfl, rfl, rfl, trivial⟩
              ·
                replace F := ite_n hp10 F
                have hq10 := dec_f hp10
                refine CW.region ?_
                refine LW.pure rfl rfl (RV.move rfl) ?_
                refine LW.pure rfl rfl (RV.nei rfl rfl) ?_
                refine LW.pure rfl rfl (RV.move rfl) ?_
                refine LW.pureYB rfl rfl rfl rfl (not_f hq9) (RV.move rfl) ?_
                refine LW.pureYB rfl rfl rfl rfl (not_f hq9) (RV.nei rfl rfl) ?_
                refine LW.pure rfl rfl (RV.pickFB rfl (not_f hq9) rfl) ?_
                refine LW.pure rfl rfl (RV.move rfl) ?_
                refine LW.noB rfl rfl rfl rfl (ne_beq (v := true) (not_t hq10) rfl) ?_
                refine LW.noB rfl rfl rfl rfl (ne_beq (v := true) (not_t hq10) rfl) ?_
                refine LW.noB rfl rfl rfl rfl (ne_beq (v := true) (not_t hq10) rfl) ?_
                refine LW.pure rfl rfl (RV.pickTB rfl (not_t hq10) rfl) ?_
                refine LW.nil (jK44 _ _ ⟨_, ?_, ⟨true, F, rfl, H⟩⟩)
                exact ⟨rfl, rfl, rfl, rfl, rfl, trivial⟩
            ·
              replace F := ite_n hp9 F
              have hq9 := dec_f hp9
              refine CW.region ?_
              refine LW.pure rfl rfl (RV.move rfl) ?_
              refine LW.pure rfl rfl (RV.nei rfl rfl) ?_
              refine LW.pure rfl rfl (RV.move rfl) ?_
              refine LW.noB rfl rfl rfl rfl (ne_beq (v := true) (not_t hq9) rfl) ?_
              refine LW.noB rfl rfl rfl rfl (ne_beq (v := true) (not_t hq9) rfl) ?_
              refine LW.pure rfl rfl (RV.pickTB rfl (not_t hq9) rfl) ?_
              refine LW.pure rfl rfl (RV.move rfl) ?_
              refine LW.noB rfl rfl rfl rfl (ne_beq (v := true) rfl rfl) ?_
              refine LW.noB rfl rfl rfl rfl (ne_beq (v := true) rfl rfl) ?_
              refine LW.noB rfl rfl rfl rfl (ne_beq (v := true) rfl rfl) ?_
              refine LW.pure rfl rfl (RV.pickTB rfl rfl rfl) ?_
              refine LW.nil (jK44 _ _ ⟨_, ?_, ⟨true, F, rfl, H⟩⟩)
              exact ⟨rfl, rfl, rfl, rfl, rfl, trivial⟩
        ·
          replace F := ite_n hp3 F
          have hq3 := dec_f hp3
          refine CW.condT rfl (not_t hq3) ?_
          refine CW.seq fun K22 hK22 => ?_
          obtain ⟨r10, hr10, F⟩ := bnd_some F
          refine CW.region ?_
          refine LW.go rfl rfl (OW.call Tc18 rfl (law07_sane_ok hr10) ?_)
          rintro _ w20 ⟨rfl, E14⟩
          refine ⟨_, rfl, ?_⟩
          replace H := H.grow E14
          replace R0 := H.ext
          refine LW.pure rfl rfl (RV.assign rfl) ?_
          refine LW.nil (hK22 _ _ ?_)
          refine CW.ret ?_
          obtain rfl := Option.some.inj F
          refine ⟨_, (ResOK.one rfl), ?_⟩
          refine ⟨(by first | rfl | simp), R0⟩
    ·
      intro K23 hK23 jK46
      obtain ⟨r14, hr14, F⟩ := bnd_some F
      by_cases hp11 : r14 = true
      ·
        replace F := ite_y hp11 F
        have hq11 : r14 = true := hp11
        refine CW.region ?_
        refine LW.pure rfl rfl (RV.loadA [.slice A21_0_supply r1.1.supply.length c21_0_supply, .slice A21_0_demand r1.1.demand.length c21_0_demand, .slice A21_0_cost r1.1.cost.length c21_0_cost] Tk25 rfl (H.blk 4 rfl).cells rfl rfl) ?_
        refine LW.pure rfl rfl (RV.loadA [.slice A23_0_supply r13.1.supply.length c23_0_supply, .slice A23_0_demand r13.1.demand.length c23_0_demand, .slice A23_0_cost r13.1.cost.length c23_0_cost] Tk25 rfl (H.blk 0 rfl).cells rfl rfl) ?_
        refine LW.go rfl rfl (OW.call Tc30 rfl (ref07_Same_ok (a0 := r1.1) (a1 := r13.1) (H.own 5 rfl).sl (H.own 6 rfl).sl (H.tab 7 rfl).sl2 (H.own 1 rfl).sl (H.own 2 rfl).sl (H.tab 3 rfl).sl2 hr14) ?_)
        rintro _ w21 ⟨rfl, E15⟩
        refine ⟨_, rfl, ?_⟩
        replace H := H.grow E15
        replace R0 := H.ext
        refine LW.pure rfl rfl (RV.not rfl) ?_
        refine LW.pure rfl rfl (RV.move rfl) ?_
        refine LW.pureYB rfl rfl rfl rfl (not_f hq11) (RV.move rfl) ?_
        refine LW.pureYB rfl rfl rfl rfl (not_f hq11) (RV.move rfl) ?_
        refine LW.pureYB rfl rfl rfl rfl (not_f hq11) (RV.nei rfl rfl) ?_
        refine LW.pure rfl rfl (RV.pickFB rfl (not_f hq11) rfl) ?_
        replace H := H.pick (L' := [.own A21_0_supply c21_0_supply 3 1 (List.map encN r1.1.supply), .own A21_0_demand c21_0_demand 3 1 (List.map encN r1.1.demand), .tab A21_0_cost c21_0_cost 22 hs21_0_cost 3 1 (encM encN r1.1.cost), .blk b1 25 [.slice A_a0_supply a0.supply.length c_a0_supply, .slice A_a0_demand a0.demand.length c_a0_demand, .slice A_a0_cost a0.cost.length c_a0_cost], .blk b3 25 [.slice A21_0_supply r1.1.supply.length c21_0_supply, .slice A21_0_demand r1.1.demand.length c21_0_demand, .slice A21_0_cost r1.1.cost.length c21_0_cost]]) [5, 6, 7, 9, 4] (by decide) rfl
        replace R0 := H.ext
        refine LW.nil (jK46 _ _ ⟨_, ?_, ⟨(!(decide (r1.2 = r13.2))), F, rfl, H⟩⟩)
        exact ⟨rfl, rfl, rfl, rfl, rfl, rfl, trivial⟩
      ·
        replace F := ite_n hp11 F
        have hq11 : r14 = false := raw_f hp11
        refine CW.region ?_
        refine LW.pure rfl rfl (RV.loadA [.slice A21_0_supply r1.1.supply.length c21_0_supply, .slice A21_0_demand r1.1.demand.length c21_0_demand, .slice A21_0_cost r1.1.cost.length c21_0_cost] Tk25 rfl (H.blk 4 rfl).cells rfl rfl) ?_
        refine LW.pure rfl rfl (RV.loadA [.slice A23_0_supply r13.1.supply.length c23_0_supply, .slice A23_0_demand r13.1.demand.length c23_0_demand, .slice A23_0_cost r13.1.cost.length c23_0_cost] Tk25 rfl (H.blk 0 rfl).cells rfl rfl) ?_
        refine LW.go rfl rfl (OW.call Tc30 rfl (ref07_Same_ok (a0 := r1.1) (a1 := r13.1) (H.own 5 rfl).sl (H.own 6 rfl).sl (H.tab 7 rfl).sl2 (H.own 1 rfl).sl (H.own 2 rfl).sl (H.tab 3 rfl).sl2 hr14) ?_)
        rintro _ w22 ⟨rfl, E16⟩
        refine ⟨_, rfl, ?_⟩
        replace H := H.grow E16
        replace R0 := H.ext
        refine LW.pure rfl rfl (RV.not rfl) ?_
        refine LW.pure rfl rfl (RV.move rfl) ?_
        refine LW.noB rfl rfl rfl rfl (ne_beq (v := true) (not_t hq11) rfl) ?_
        refine LW.noB rfl rfl rfl rfl (ne_beq (v := true) (not_t hq11) rfl) ?_
        refine LW.noB rfl rfl rfl rfl (ne_beq (v := true) (not_t hq11) rfl) ?_
        refine LW.pure rfl rfl (RV.pickTB rfl (not_t hq11) rfl) ?_
        replace H := H.pick (L' := [.own A21_0_supply c21_0_supply 3 1 (List.map encN r1.1.supply), .own A21_0_demand c21_0_demand 3 1 (List.map encN r1.1.demand), .tab A21_0_cost c21_0_cost 22 hs21_0_cost 3 1 (encM encN r1.1.cost), .blk b1 25 [.slice A_a0_supply a0.supply.length c_a0_supply, .slice A_a0_demand a0.demand.length c_a0_demand, .slice A_a0_cost a0.cost.length c_a0_cost], .blk b3 25 [.slice A21_0_supply r1.1.supply.length c21_0_supply, .slice A21_0_demand r1.1.demand.length c21_0_demand, .slice A21_0_cost r1.1.cost.length c21_0_cost]]) [5, 6, 7, 9, 4] (by decide) rfl
        replace R0 := H.ext
        refine LW.nil (jK46 _ _ ⟨_, ?_, ⟨true, F, rfl, H⟩⟩)
        exact ⟨rfl, rfl, rfl, rfl, rfl, rfl, trivial⟩
end Go.D7

namespace Go.Tb
/-- A loop over 0 .. N - 1 with a state, that is left at the first i for which p does not hold. -/
theorem scan_loop {S R : Type} (N : Nat) (p : Nat → Bool) (g : Nat → S) (L : Nat → S → Int → Option R) (yes : Option R) (no : Nat → Option R)
    (step : ∀ n i : Nat, i < N → L (n + 1) (g i) (i : Int) = if p i = true then L n (g (i + 1)) ((i + 1 : Nat) : Int) else no i)
    (stop : ∀ n : Nat, L (n + 1) (g N) (N : Int) = yes) : ∀ (d n i : Nat), N = i + d → d < n → L n (g i) (i : Int) = match (List.range' i d).find? (fun j => !p j) with | none => yes | some j => no j
  | 0, n + 1, i, hd, hn => by
    have hi : i = N := by omega
    subst hi
    rw [stop n]; rfl
  | d + 1, n + 1, i, hd, hn => by
    rw [step n i (by omega), List.range'_succ, List.find?_cons]
    cases hp : p i
    · simp
    · simp only [if_true, Bool.not_true]
      exact scan_loop N p g L yes no step stop d n (i + 1) (by omega) (by omega)
theorem find_all {p : Nat → Bool} {i d : Nat} : (List.range' i d).find? (fun j => !p j) = none ↔ ∀ j, i ≤ j → j < i + d → p j = true := by
  rw [List.find?_eq_none]
  constructor
  · intro h j h1 h2
    have := h j (by rw [List.mem_range'_1]; omega)
    simpa using this
  · intro h x hx
    rw [List.mem_range'_1] at hx
    simp [h x hx.1 hx.2]
/-- A loop over 0 .. N - 1 with a state and no way out. -/
theorem for_loop {S R : Type} (N : Nat) (g : Nat → S) (L : Nat → S → Int → Option R) (yes : Option R)
    (step : ∀ n i : Nat, i < N → L (n + 1) (g i) (i : Int) = L n (g (i + 1)) ((i + 1 : Nat) : Int))
    (stop : ∀ n : Nat, L (n + 1) (g N) (N : Int) = yes) : ∀ (d n i : Nat), N = i + d → d < n → L n (g i) (i : Int) = yes
  | 0, n + 1, i, hd, hn => by
    have hi : i = N := by omega
    subst hi
    exact stop n
  | d + 1, n + 1, i, hd, hn => by
    rw [step n i (by omega)]
    exact for_loop N g L yes step stop d n (i + 1) (by omega) (by omega)
theorem for_loop0 {S R : Type} (N : Nat) (g : Nat → S) (L : Nat → S → Int → Option R) (yes : Option R)
    (step : ∀ n i : Nat, i < N → L (n + 1) (g i) (i : Int) = L n (g (i + 1)) ((i + 1 : Nat) : Int))
    (stop : ∀ n : Nat, L (n + 1) (g N) (N : Int) = yes) (hN : N ≤ 9223372036854775807) : L FU (g 0) 0 = yes :=
  for_loop N g L yes step stop N FU 0 (by omega) (by have := FU_pos; omega)
theorem scan_loop0 {S R : Type} (N : Nat) (p : Nat → Bool) (g : Nat → S) (L : Nat → S → Int → Option R) (yes no : Option R)
    (step : ∀ n i : Nat, i < N → L (n + 1) (g i) (i : Int) = if p i = true then L n (g (i + 1)) ((i + 1 : Nat) : Int) else no)
    (stop : ∀ n : Nat, L (n + 1) (g N) (N : Int) = yes) (hN : N ≤ 9223372036854775807) : L FU (g 0) 0 = if (∀ j, j < N → p j = true) then yes else no := by
  have h := scan_loop N p g L yes (fun _ => no) step stop N FU 0 (by omega) (by have := FU_pos; omega)
  refine Eq.trans h ?_
  cases hf : (List.range' 0 N).find? (fun j => !p j) with
  | none => rw [if_pos (fun j hj => find_all.1 hf j (by omega) (by omega))]
  | some j =>
    have h1 := List.find?_some hf
    have h2 := List.mem_of_find?_eq_some hf
    rw [List.mem_range'_1] at h2
    rw [if_neg]
    intro hall
    have := hall j (by omega)
    simp [this] at h1
/-- The same over the elements of a list. -/
theorem list_loop0 {α R : Type} (l : List α) (p : α → Bool) (L : Nat → Int → Option R) (yes no : Option R)
    (step : ∀ (n i : Nat) (x : α), l[i]? = some x → L (n + 1) (i : Int) = if p x = true then L n ((i + 1 : Nat) : Int) else no)
    (stop : ∀ n : Nat, L (n + 1) (l.length : Int) = yes) (hl : l.length ≤ 9223372036854775807) : L FU 0 = if l.all p = true then yes else no := by
  have h := scan_loop0 l.length (fun i => (l[i]?.map p).getD true) (fun _ => ()) (fun n _ i => L n i) yes no (fun n i hi => by
    have hx : l[i]? = some l[i] := by simp [hi]
    rw [step n i _ hx]; simp [hx]) stop hl
  refine Eq.trans h ?_
  by_cases ha : l.all p = true
  · rw [if_pos ha, if_pos]
    intro j hj
    have := List.all_eq_true.1 ha l[j] (List.getElem_mem hj)
    simp [hj, this]
  · rw [if_neg ha, if_neg]
    intro hc
    refine ha (List.all_eq_true.2 fun x hx => ?_)
    obtain ⟨j, hj⟩ := List.getElem?_of_mem hx
    have := hc j (lt_of_at hj)
    simpa [hj] using this
end Go.Tb

set_option linter.unusedVariables false
set_option linter.unusedSimpArgs false
namespace Go.D7
open Go.Tb
theorem ix0 {α β : Type} {l : List α} {k : α → Option β} {x : α} (h : l[0]? = some x) : ix l 0 k = k x := ix_nat (i := 0) h
theorem for0 {S R : Type} (N : Nat) (g : Nat → S) (L : Nat → S → Int → Option R) (yes : Option R) {s0 : S} (h0 : g 0 = s0)
    (step : ∀ n i : Nat, i < N → L (n + 1) (g i) (i : Int) = L n (g (i + 1)) ((i + 1 : Nat) : Int))
    (stop : ∀ n : Nat, L (n + 1) (g N) (N : Int) = yes) (hN : N ≤ 9223372036854775807) : L FU s0 0 = yes := by
  rw [← h0]; exact for_loop0 N g L yes step stop hN
theorem scan_inv {S R : Type} (N : Nat) (p : Nat → Bool) (g : Nat → S) (L : Nat → S → Int → Option R) (yes no : Option R)
    (step : ∀ n i : Nat, i < N → (∀ j, j < i → p j = true) → L (n + 1) (g i) (i : Int) = if p i = true then L n (g (i + 1)) ((i + 1 : Nat) : Int) else no)
    (stop : ∀ n : Nat, (∀ j, j < N → p j = true) → L (n + 1) (g N) (N : Int) = yes) : ∀ (d n i : Nat), N = i + d → d < n → (∀ j, j < i → p j = true) → L n (g i) (i : Int) = if (∀ j, j < N → p j = true) then yes else no
  | 0, n + 1, i, hd, hn, hi => by
    have e : i = N := by omega
    subst e
    rw [stop n hi, if_pos hi]
  | d + 1, n + 1, i, hd, hn, hi => by
    rw [step n i (by omega) hi]
    by_cases hp : p i = true
    · rw [if_pos hp]
      exact scan_inv N p g L yes no step stop d n (i + 1) (by omega) (by omega) (fun j hj => by
        by_cases h : j = i
        · subst h; exact hp
        · exact hi j (by omega))
    · rw [if_neg hp, if_neg (fun h => hp (h i (by omega)))]
theorem scan_inv0 {S R : Type} (N : Nat) (p : Nat → Bool) (g : Nat → S) (L : Nat → S → Int → Option R) (yes no : Option R) {s0 : S} (h0 : g 0 = s0)
    (step : ∀ n i : Nat, i < N → (∀ j, j < i → p j = true) → L (n + 1) (g i) (i : Int) = if p i = true then L n (g (i + 1)) ((i + 1 : Nat) : Int) else no)
    (stop : ∀ n : Nat, (∀ j, j < N → p j = true) → L (n + 1) (g N) (N : Int) = yes) (hN : N ≤ 9223372036854775807) : L FU s0 0 = if (∀ j, j < N → p j = true) then yes else no := by
  rw [← h0]
  exact scan_inv N p g L yes no step stop N FU 0 (by omega) (by have := FU_pos; omega) (fun j hj => by omega)
def gi (l : List Int) (i : Nat) : Int := l.getD i 0
theorem gi_at {l : List Int} {i : Nat} (h : i < l.length) : l[i]? = some (gi l i) := by simp [gi, List.getD, h]
theorem gi_of {l : List Int} {i : Nat} {x : Int} (h : l[i]? = some x) : gi l i = x := by simp [gi, List.getD, h]
def gr (l : List (List Int)) (i : Nat) : List Int := l.getD i []
theorem gr_at {l : List (List Int)} {i : Nat} (h : i < l.length) : l[i]? = some (gr l i) := by simp [gr, List.getD, h]
theorem gr_of {l : List (List Int)} {i : Nat} {x : List Int} (h : l[i]? = some x) : gr l i = x := by simp [gr, List.getD, h]
def within (n lo hi : Int) : Bool := decide (lo ≤ n) && decide (n ≤ hi)
theorem within_iff {n lo hi : Int} : within n lo hi = true ↔ lo ≤ n ∧ n ≤ hi := by unfold within; simp
theorem bwithin_eq (n lo hi : Int) : bulk_within n lo hi = some (within n lo hi) := by
  unfold bulk_within within
  by_cases h : lo ≤ n <;> simp [h]
theorem rwithin_eq (n lo hi : Int) : ref07_within n lo hi = some (within n lo hi) := by
  unfold ref07_within within
  by_cases h : lo ≤ n <;> simp [h]
theorem sane_eq : law07_sane = some true := by decide +kernel
def tot : List Int → Int
  | [] => 0
  | x :: r => x + tot r
theorem tot_append : ∀ a b : List Int, tot (a ++ b) = tot a + tot b
  | [], b => by simp [tot]
  | x :: a, b => by simp only [List.cons_append, tot, tot_append a b]; omega
theorem tot_take {l : List Int} {i : Nat} (h : i < l.length) : tot (l.take (i + 1)) = tot (l.take i) + gi l i := by
  rw [List.take_add_one, gi_at h, tot_append]
  simp [tot]
theorem tot_bnd {M : Int} (hM : 0 ≤ M) : ∀ l : List Int, (∀ x ∈ l, 0 ≤ x ∧ x ≤ M) → 0 ≤ tot l ∧ tot l ≤ M * (l.length : Int)
  | [], _ => by simp [tot]
  | x :: r, h => by
    have ih := tot_bnd hM r (fun y hy => h y (List.mem_cons_of_mem _ hy))
    have hx := h x (List.mem_cons_self ..)
    have e : ((List.length (x :: r) : Nat) : Int) = (r.length : Int) + 1 := by simp
    rw [e, Int.mul_add]
    simp only [tot]
    omega
theorem total_eq {M : Int} (hM : 0 ≤ M ∧ M ≤ 1000) {l : List Int} (hl : l.length ≤ 1000) (h : ∀ x ∈ l, 0 ≤ x ∧ x ≤ M) : bulk_total l = some (tot l) := by
  unfold bulk_total
  refine Eq.trans (for0 l.length (fun i => tot (l.take i)) (fun k s i => bulk_total_L1 l k s i) (some (tot l)) rfl (fun k i hi => ?_) (fun k => ?_) (by omega)) rfl
  · have hb := tot_bnd hM.1 (l.take i) (fun x hx => h x (List.mem_of_mem_take hx))
    have hx := h _ (List.mem_of_getElem? (gi_at hi))
    have hlt : ((l.take i).length : Int) ≤ 1000 := by rw [List.length_take]; omega
    have h2 : M * ((l.take i).length : Int) ≤ 1000 * 1000 := Int.le_trans (Int.mul_le_mul_of_nonneg_right hM.2 (Int.natCast_nonneg _)) (Int.mul_le_mul_of_nonneg_left hlt (by decide))
    show bulk_total_B1 l (bulk_total_L1 l k) _ _ = _
    unfold bulk_total_B1
    rw [if_pos (by omega), ix_nat (gi_at hi), gd_pos (by omega), gd_pos (by omega), tot_take hi]; rfl
  · show bulk_total_B1 l (bulk_total_L1 l k) _ _ = _
    unfold bulk_total_B1
    rw [if_neg (by omega), List.take_length]; rfl
theorem rsum_eq {M : Int} (hM : 0 ≤ M ∧ M ≤ 1000) {l : List Int} (hl : l.length ≤ 1000) (h : ∀ x ∈ l, 0 ≤ x ∧ x ≤ M) : ref07_sum l = some (tot l) := by
  unfold ref07_sum
  refine Eq.trans (for0 l.length (fun i => tot (l.take i)) (fun k s i => ref07_sum_L1 l k s i) (some (tot l)) rfl (fun k i hi => ?_) (fun k => ?_) (by omega)) rfl
  · have hb := tot_bnd hM.1 (l.take i) (fun x hx => h x (List.mem_of_mem_take hx))
    have hx := h _ (List.mem_of_getElem? (gi_at hi))
    have hlt : ((l.take i).length : Int) ≤ 1000 := by rw [List.length_take]; omega
    have h2 : M * ((l.take i).length : Int) ≤ 1000 * 1000 := Int.le_trans (Int.mul_le_mul_of_nonneg_right hM.2 (Int.natCast_nonneg _)) (Int.mul_le_mul_of_nonneg_left hlt (by decide))
    show ref07_sum_B1 l (ref07_sum_L1 l k) _ _ = _
    unfold ref07_sum_B1
    rw [if_pos (by omega), ix_nat (gi_at hi), gd_pos (by omega), gd_pos (by omega), tot_take hi]; rfl
  · show ref07_sum_B1 l (ref07_sum_L1 l k) _ _ = _
    unfold ref07_sum_B1
    rw [if_neg (by omega), List.take_length]; rfl
theorem indexF_eq {l : List Int} {f : Int → Option Bool} {p : Int → Bool} (hf : ∀ x, f x = some (p x)) (hl : l.length ≤ 1000) : ∀ (suf pre : List Int) (k : Nat), l = pre ++ suf → suf.length < k → ∃ i : Int, slices_IndexFunc_int_L1 l f k (pre.length : Int) = some i ∧ (0 ≤ i ↔ suf.any p = true)
  | [], pre, k + 1, h, hk => by
    refine ⟨-1, ?_, by simp⟩
    show slices_IndexFunc_int_B1 l f (slices_IndexFunc_int_L1 l f k) _ = _
    unfold slices_IndexFunc_int_B1
    rw [if_neg (by rw [h]; simp)]; rfl
  | y :: r, pre, k + 1, h, hk => by
    have hy : l[pre.length]? = some y := by rw [h, List.getElem?_append_right (Nat.le_refl _)]; simp
    have := lt_of_at hy
    obtain ⟨i, h1, h2⟩ := indexF_eq hf hl r (pre ++ [y]) k (by rw [h]; simp) (by simp at hk; omega)
    have e : slices_IndexFunc_int_L1 l f (k + 1) (pre.length : Int) = slices_IndexFunc_int_B1 l f (slices_IndexFunc_int_L1 l f k) (pre.length : Int) := rfl
    rw [e]
    unfold slices_IndexFunc_int_B1
    rw [if_pos (by omega), ix_nat hy, bnd_eq (hf y)]
    by_cases hp : p y = true
    · rw [if_pos hp]
      exact ⟨_, rfl, by simp [hp]⟩
    · rw [if_neg hp, gd_pos (by omega)]
      rw [show (((pre ++ [y]).length : Nat) : Int) = (pre.length : Int) + 1 by simp] at h1
      exact ⟨i, h1, by rw [h2]; simp [hp]⟩
theorem containsF_eq {l : List Int} {f : Int → Option Bool} {p : Int → Bool} (hf : ∀ x, f x = some (p x)) (hl : l.length ≤ 1000) : slices_ContainsFunc_int l f = some (l.any p) := by
  obtain ⟨i, h1, h2⟩ := indexF_eq hf hl l [] FU rfl (by have := FU_pos; omega)
  unfold slices_ContainsFunc_int slices_IndexFunc_int
  have h1' : slices_IndexFunc_int_L1 l f FU 0 = some i := h1
  rw [bnd_eq h1']
  congr 1
  by_cases h : l.any p = true
  · rw [decide_eq_true (h2.2 h), h]
  · rw [decide_eq_false (fun hc => h (h2.1 hc))]; simpa using h
theorem any_not {α : Type} (l : List α) (p : α → Bool) : (!(l.any (fun x => !p x))) = l.all p := by
  induction l with
  | nil => rfl
  | cons x r ih => simp only [List.any_cons, List.all_cons, Bool.not_or, Bool.not_not, ih]
def amtB (l : List Int) : Bool := (decide (1 ≤ l.length) && decide (l.length ≤ 4)) && l.all (fun x => within x 0 30)
def rowB (n : Nat) (most : Int) (row : List Int) : Bool := decide (row.length = n) && row.all (fun x => within x 0 most)
def tabB (t : Trade) (l : List (List Int)) (most : Int) : Bool := decide (l.length = t.supply.length) && l.all (rowB t.demand.length most)
def okT (t : Trade) : Bool := amtB t.supply && amtB t.demand && decide (tot t.supply = tot t.demand) && tabB t t.cost 99
def validate (t : Trade) : Int := if okT t = true then 0 else 1
theorem amounts_eq {l : List Int} (hl : l.length ≤ 1000) : bulk_amounts l = some (amtB l) := by
  unfold bulk_amounts amtB
  rw [bnd_eq (bwithin_eq _ _ _)]
  have e : within (l.length : Int) 1 4 = (decide (1 ≤ l.length) && decide (l.length ≤ 4)) := by
    rw [Bool.eq_iff_iff, within_iff]; simp; omega
  rw [e]
  cases (decide (1 ≤ l.length) && decide (l.length ≤ 4))
  · rfl
  · rw [if_pos rfl, bnd_eq (containsF_eq (p := fun x => !within x 0 30) (fun x => by unfold bulk_amounts_1; rw [bnd_eq (bwithin_eq _ _ _)]) hl), any_not]; rfl
theorem ramounts_eq {l : List Int} (hl : l.length ≤ 1000) : ref07_amounts l = some (amtB l) := by
  unfold ref07_amounts amtB
  have e : within (l.length : Int) 1 4 = (decide (1 ≤ l.length) && decide (l.length ≤ 4)) := by
    rw [Bool.eq_iff_iff, within_iff]; simp; omega
  rw [list_loop0 l (fun x => within x 0 30) (ref07_amounts_L1 l) (some (decide (1 ≤ l.length) && decide (l.length ≤ 4))) (some false) (fun k i x hx => ?_) (fun k => ?_) (by omega)]
  · cases l.all (fun x => within x 0 30) <;> simp
  · have := lt_of_at hx
    show ref07_amounts_B1 l (ref07_amounts_L1 l k) _ = _
    unfold ref07_amounts_B1
    rw [if_pos (by omega), ix_nat hx, bnd_eq (rwithin_eq _ _ _)]
    by_cases h : within x 0 30 = true
    · rw [if_pos h, gd_pos (by omega), if_pos h]; rfl
    · rw [if_neg h, if_neg h]
  · show ref07_amounts_B1 l (ref07_amounts_L1 l k) _ = _
    unfold ref07_amounts_B1 ref07_amounts_k1
    rw [if_neg (by omega), bnd_eq (rwithin_eq _ _ _), e]
def Tsmall (t : Trade) : Prop := t.supply.length ≤ 50 ∧ t.demand.length ≤ 50 ∧ t.cost.length ≤ 50 ∧ ∀ r ∈ t.cost, r.length ≤ 50
def Lsmall (l : List (List Int)) : Prop := l.length ≤ 50 ∧ ∀ r ∈ l, r.length ≤ 50
theorem table_eq {t : Trade} (ht : t.supply.length ≤ 1000 ∧ t.demand.length ≤ 1000) {l : List (List Int)} (hl : Lsmall l) (most : Int) : bulk_table t l most = some (tabB t l most) := by
  unfold bulk_table tabB
  have hl1 := hl.1
  by_cases h : l.length = t.supply.length
  · rw [if_pos (by omega), decide_eq_true h, Bool.true_and, list_loop0 l (rowB t.demand.length most) (bulk_table_L1 t l most) (some true) (some false) (fun k i x hx => ?_) (fun k => ?_) (by omega)]
    · cases l.all (rowB t.demand.length most) <;> rfl
    · have := lt_of_at hx
      have hx50 := hl.2 x (List.mem_of_getElem? hx)
      show bulk_table_B1 t l most (bulk_table_L1 t l most k) _ = _
      unfold bulk_table_B1 bulk_table_k2 rowB
      rw [if_pos (by omega), ix_nat hx]
      by_cases hr : x.length = t.demand.length
      · rw [if_pos (by omega), bnd_eq (containsF_eq (p := fun y => !within y 0 most) (fun y => by unfold bulk_table_1; rw [bnd_eq (bwithin_eq _ _ _)]) (by omega)), decide_eq_true hr, Bool.true_and, ← any_not]
        cases x.any (fun y => !within y 0 most)
        · rw [if_neg (by simp), gd_pos (by omega), if_pos (by rfl)]; rfl
        · rw [if_pos rfl, if_neg (by simp)]
      · rw [if_neg (by omega), if_pos rfl, decide_eq_false hr, if_neg (by simp)]
    · show bulk_table_B1 t l most (bulk_table_L1 t l most k) _ = _
      unfold bulk_table_B1
      rw [if_neg (by omega)]; rfl
  · rw [if_neg (by omega), decide_eq_false h]; rfl
theorem rtable_eq {t : Trade} (ht : t.supply.length ≤ 1000 ∧ t.demand.length ≤ 1000) {l : List (List Int)} (hl : Lsmall l) (most : Int) : ref07_table t l most = some (tabB t l most) := by
  unfold ref07_table tabB
  have hl1 := hl.1
  by_cases h : l.length = t.supply.length
  · rw [if_pos (by omega), decide_eq_true h, Bool.true_and, list_loop0 l (rowB t.demand.length most) (ref07_table_L2 t l most) (some true) (some false) (fun k i x hx => ?_) (fun k => ?_) (by omega)]
    · cases l.all (rowB t.demand.length most) <;> rfl
    · have := lt_of_at hx
      have hx50 := hl.2 x (List.mem_of_getElem? hx)
      show ref07_table_B2 t l most (ref07_table_L2 t l most k) _ = _
      unfold ref07_table_B2 rowB
      rw [if_pos (by omega), ix_nat hx]
      by_cases hr : x.length = t.demand.length
      · rw [if_pos (by omega), decide_eq_true hr, Bool.true_and, list_loop0 x (fun y => within y 0 most) (ref07_table_L1 l most (i : Int) (ref07_table_L2 t l most k)) (ref07_table_L2 t l most k ((i + 1 : Nat) : Int)) (some false) (fun q j y hy => ?_) (fun q => ?_) (by omega)]
        · have := lt_of_at hy
          show ref07_table_B1 l most (i : Int) (ref07_table_L2 t l most k) (ref07_table_L1 l most (i : Int) (ref07_table_L2 t l most k) q) _ = _
          unfold ref07_table_B1
          rw [ix_nat hx, if_pos (by omega), ix_nat hx, ix_nat hy, bnd_eq (rwithin_eq _ _ _)]
          by_cases hw : within y 0 most = true
          · rw [if_pos hw, gd_pos (by omega), if_pos hw]; rfl
          · rw [if_neg hw, if_neg hw]
        · show ref07_table_B1 l most (i : Int) (ref07_table_L2 t l most k) (ref07_table_L1 l most (i : Int) (ref07_table_L2 t l most k) q) _ = _
          unfold ref07_table_B1 ref07_table_k2
          rw [ix_nat hx, if_neg (by omega), gd_pos (by omega)]; rfl
      · rw [if_neg (by omega), decide_eq_false hr, if_neg (by simp)]
    · show ref07_table_B2 t l most (ref07_table_L2 t l most k) _ = _
      unfold ref07_table_B2
      rw [if_neg (by omega)]; rfl
  · rw [if_neg (by omega), decide_eq_false h]; rfl
theorem amt_mem {l : List Int} (h : amtB l = true) : 1 ≤ l.length ∧ l.length ≤ 4 ∧ ∀ x ∈ l, 0 ≤ x ∧ x ≤ 30 := by
  unfold amtB at h
  simp only [Bool.and_eq_true, decide_eq_true_eq, List.all_eq_true, within_iff] at h
  exact ⟨h.1.1, h.1.2, h.2⟩
theorem Validate_eq {t : Trade} (ht : Tsmall t) : bulk_Validate t = some (validate t) := by
  obtain ⟨h1, h2, h3, h4⟩ := ht
  unfold bulk_Validate validate okT bulk_Validate_k1
  rw [bnd_eq (amounts_eq (by omega))]
  cases ha : amtB t.supply
  · rw [if_neg (by simp), if_pos rfl]; rfl
  · rw [if_pos rfl, bnd_eq (amounts_eq (by omega))]
    cases hb : amtB t.demand
    · rw [if_neg (by simp), if_pos rfl]; rfl
    · have m1 := amt_mem ha
      have m2 := amt_mem hb
      rw [if_pos rfl, bnd_eq (total_eq (M := 30) (by decide) (by omega) m1.2.2), bnd_eq (total_eq (M := 30) (by decide) (by omega) m2.2.2)]
      by_cases he : tot t.supply = tot t.demand
      · rw [if_pos he, bnd_eq (table_eq ⟨by omega, by omega⟩ ⟨h3, h4⟩ _), decide_eq_true he]
        cases tabB t t.cost 99 <;> rfl
      · rw [if_neg he, if_pos rfl, decide_eq_false he]; rfl
theorem rValidate_eq {t : Trade} (ht : Tsmall t) : ref07_Validate t = some (validate t) := by
  obtain ⟨h1, h2, h3, h4⟩ := ht
  unfold ref07_Validate validate okT ref07_Validate_k1
  rw [bnd_eq (ramounts_eq (by omega))]
  cases ha : amtB t.supply
  · rw [if_neg (by simp), if_pos rfl]; rfl
  · rw [if_pos rfl, bnd_eq (ramounts_eq (by omega))]
    cases hb : amtB t.demand
    · rw [if_neg (by simp), if_pos rfl]; rfl
    · have m1 := amt_mem ha
      have m2 := amt_mem hb
      rw [if_pos rfl, bnd_eq (rsum_eq (M := 30) (by decide) (by omega) m1.2.2), bnd_eq (rsum_eq (M := 30) (by decide) (by omega) m2.2.2)]
      by_cases he : tot t.supply = tot t.demand
      · rw [if_pos he, bnd_eq (rtable_eq ⟨by omega, by omega⟩ ⟨h3, h4⟩ _), decide_eq_true he]
        cases tabB t t.cost 99 <;> rfl
      · rw [if_neg he, if_pos rfl, decide_eq_false he]; rfl
end Go.D7

set_option linter.unusedVariables false
set_option linter.unusedSimpArgs false
namespace Go.D7
open Go.Tb
def sumN : Nat → (Nat → Int) → Int
  | 0, _ => 0
  | n + 1, f => sumN n f + f n
theorem sumN_congr {f g : Nat → Int} : ∀ n, (∀ i, i < n → f i = g i) → sumN n f = sumN n g
  | 0, _ => rfl
  | n + 1, h => by simp only [sumN, sumN_congr n (fun i hi => h i (by omega)), h n (by omega)]
theorem sumN_bnd {M : Int} {f : Nat → Int} : ∀ n, (∀ i, i < n → 0 ≤ f i ∧ f i ≤ M) → 0 ≤ sumN n f ∧ sumN n f ≤ M * (n : Int)
  | 0, _ => by simp [sumN]
  | n + 1, h => by
    have ih := sumN_bnd n (fun i hi => h i (by omega))
    have hn := h n (by omega)
    rw [show ((n + 1 : Nat) : Int) = (n : Int) + 1 by omega, Int.mul_add]
    simp only [sumN]; omega
theorem sumN_add (f g : Nat → Int) : ∀ n, sumN n (fun i => f i + g i) = sumN n f + sumN n g
  | 0 => rfl
  | n + 1 => by simp only [sumN, sumN_add f g n]; omega
theorem sumN_mul (c : Int) (f : Nat → Int) : ∀ n, sumN n (fun i => c * f i) = c * sumN n f
  | 0 => by simp [sumN]
  | n + 1 => by simp only [sumN, sumN_mul c f n, Int.mul_add]
theorem sumN_zero : ∀ n, sumN n (fun _ => 0) = 0
  | 0 => rfl
  | n + 1 => by simp only [sumN, sumN_zero n]; rfl
theorem sumN_swap (f : Nat → Nat → Int) (m : Nat) : ∀ n, sumN n (fun i => sumN m (fun j => f i j)) = sumN m (fun j => sumN n (fun i => f i j))
  | 0 => by simp only [sumN]; rw [sumN_zero]
  | n + 1 => by simp only [sumN, sumN_swap f m n, sumN_add]
theorem sumN_le {f g : Nat → Int} : ∀ n, (∀ i, i < n → f i ≤ g i) → sumN n f ≤ sumN n g
  | 0, _ => Int.le_refl _
  | n + 1, h => by
    have ih := sumN_le n (fun i hi => h i (by omega))
    have hn := h n (by omega)
    simp only [sumN]; omega
theorem tot_sumN (l : List Int) : tot l = sumN l.length (gi l) := by
  have key : ∀ i, i ≤ l.length → tot (l.take i) = sumN i (gi l) := by
    intro i
    induction i with
    | zero => intro _; rfl
    | succ i ih => intro h; rw [tot_take (by omega), ih (by omega)]; rfl
  have := key l.length (Nat.le_refl _)
  rwa [List.take_length] at this
def tb (m : Nat) (f : Nat → Int) : List Int := (List.range m).map f
theorem tb_len (m : Nat) (f : Nat → Int) : (tb m f).length = m := by unfold tb; simp
theorem tb_at {m : Nat} {f : Nat → Int} {k : Nat} (h : k < m) : (tb m f)[k]? = some (f k) := by unfold tb; simp [h]
theorem tb_gi {m : Nat} {f : Nat → Int} {k : Nat} (h : k < m) : gi (tb m f) k = f k := gi_of (tb_at h)
theorem tb_congr {m : Nat} {f g : Nat → Int} (h : ∀ k, k < m → f k = g k) : tb m f = tb m g := by
  unfold tb
  apply List.map_congr_left
  intro k hk
  exact h k (List.mem_range.1 hk)
theorem tb_set {m : Nat} {f : Nat → Int} {k : Nat} (v : Int) : (tb m f).set k v = tb m (fun j => if j = k then v else f j) := by
  apply List.ext_getElem?
  intro j
  rw [List.getElem?_set]
  unfold tb
  by_cases hj : j < m
  · by_cases hk : k = j
    · subst hk; simp [hj]
    · rw [if_neg hk]
      simp only [List.getElem?_map, List.getElem?_range hj, Option.map_some]
      rw [if_neg (fun e => hk e.symm)]
  · have h1 : (List.range m)[j]? = none := by rw [List.getElem?_eq_none]; simpa using hj
    simp only [List.getElem?_map, h1, Option.map_none]
    by_cases hk : k = j
    · subst hk; simp [hj]
    · rw [if_neg hk]
theorem tb_self (l : List Int) : tb l.length (gi l) = l := by
  apply List.ext_getElem?
  intro j
  by_cases hj : j < l.length
  · rw [tb_at hj, gi_at hj]
  · rw [List.getElem?_eq_none (by rw [tb_len]; omega), List.getElem?_eq_none (by omega)]
theorem rep_tb (m : Nat) : List.replicate m (0 : Int) = tb m (fun _ => 0) := by
  unfold tb
  induction m with
  | zero => rfl
  | succ m ih => rw [List.replicate_succ', ih, List.range_succ, List.map_append]; rfl
def cell (l : List (List Int)) (i j : Nat) : Int := gi (gr l i) j
def col (l : List (List Int)) (i j : Nat) : Int := sumN i (fun q => cell l q j)
def rowsB (t : Trade) (l : List (List Int)) (i : Nat) : Bool := decide (tot (gr l i) = gi t.supply i)
def checkPlan (t : Trade) (l : List (List Int)) : Int :=
  if okT t = true then (if tabB t l 120 = true then (if (∀ i, i < l.length → rowsB t l i = true) then (if tb t.demand.length (col l l.length) = t.demand then 0 else 6) else 6) else 1) else 1
theorem tab_spec {t : Trade} {l : List (List Int)} {most : Int} (h : tabB t l most = true) : l.length = t.supply.length ∧ ∀ i, i < l.length → (gr l i).length = t.demand.length ∧ (∀ x ∈ gr l i, 0 ≤ x ∧ x ≤ most) ∧ ∀ j, j < t.demand.length → 0 ≤ cell l i j ∧ cell l i j ≤ most := by
  unfold tabB at h
  simp only [Bool.and_eq_true, decide_eq_true_eq, List.all_eq_true] at h
  refine ⟨h.1, fun i hi => ?_⟩
  have hm := h.2 (gr l i) (List.mem_of_getElem? (gr_at hi))
  unfold rowB at hm
  simp only [Bool.and_eq_true, decide_eq_true_eq, List.all_eq_true, within_iff] at hm
  exact ⟨hm.1, hm.2, fun j hj => hm.2 _ (List.mem_of_getElem? (gi_at (by omega)))⟩
theorem okT_spec {t : Trade} (h : okT t = true) : (1 ≤ t.supply.length ∧ t.supply.length ≤ 4 ∧ ∀ x ∈ t.supply, 0 ≤ x ∧ x ≤ 30) ∧ (1 ≤ t.demand.length ∧ t.demand.length ≤ 4 ∧ ∀ x ∈ t.demand, 0 ≤ x ∧ x ≤ 30) ∧ tot t.supply = tot t.demand ∧ tabB t t.cost 99 = true := by
  unfold okT at h
  simp only [Bool.and_eq_true, decide_eq_true_eq] at h
  exact ⟨amt_mem h.1.1.1, amt_mem h.1.1.2, h.1.2, h.2⟩
theorem equal_eq : ∀ {a b : List Int}, a.length ≤ 1000 → slices_Equal_int a b = some (decide (a = b)) := fun {a b} hl => by
  unfold slices_Equal_int
  by_cases h : a.length = b.length
  · rw [if_pos (by omega)]
    refine Eq.trans (scan_inv0 a.length (fun i => decide (gi a i = gi b i)) (fun _ => ()) (fun k _ i => slices_Equal_int_L1 a b k i) (some true) (some false) (s0 := ()) rfl (fun k i hi _ => ?_) (fun k _ => ?_) (by omega)) ?_
    · show slices_Equal_int_B1 a b (slices_Equal_int_L1 a b k) _ = _
      unfold slices_Equal_int_B1
      rw [if_pos (by omega), ix_nat (gi_at hi), ix_nat (gi_at (by omega))]
      by_cases he : gi a i = gi b i
      · rw [if_pos he, gd_pos (by omega), if_pos (by simpa using he)]; rfl
      · rw [if_neg he, if_neg (by simpa using he)]
    · show slices_Equal_int_B1 a b (slices_Equal_int_L1 a b k) _ = _
      unfold slices_Equal_int_B1
      rw [if_neg (by omega)]; rfl
    · by_cases he : a = b
      · subst he; rw [if_pos (by simp), decide_eq_true rfl]
      · rw [decide_eq_false he, if_neg]
        intro hc
        apply he
        rw [← tb_self a, ← tb_self b, h]
        exact tb_congr fun k hk => by simpa using hc k (by omega)
  · rw [if_neg (by omega), decide_eq_false (fun e => h (by rw [e]))]
section
variable {t : Trade} {l : List (List Int)}
theorem col_bnd (h : tabB t l 120 = true) {i j : Nat} (hi : i ≤ l.length) (hj : j < t.demand.length) : 0 ≤ col l i j ∧ col l i j ≤ 120 * (i : Int) :=
  sumN_bnd i (fun q hq => ((tab_spec h).2 q (by omega)).2.2 j hj)
theorem add_loop (hl : l.length ≤ 50) (ht : t.demand.length ≤ 50) (h : tabB t l 120 = true) {i : Nat} (hi : i < l.length) (rec1 : Int → List Int → Option Int) :
    bulk_CheckPlan_L1 (i : Int) rec1 (gr l i) FU 0 (tb t.demand.length (col l i)) = bulk_CheckPlan_k2 (i : Int) rec1 (tb t.demand.length (col l (i + 1))) := by
  obtain ⟨h1, h2⟩ := tab_spec h
  have hr := h2 i hi
  refine for0 t.demand.length (fun k => tb t.demand.length (fun j => if j < k then col l (i + 1) j else col l i j)) (fun k s q => bulk_CheckPlan_L1 (i : Int) rec1 (gr l i) k q s) _ (tb_congr fun k hk => by simp) (fun k q hq => ?_) (fun k => ?_) (by omega)
  · have hb := col_bnd h (i := i) (by omega) hq
    have hc := hr.2.2 q hq
    show bulk_CheckPlan_B1 (i : Int) rec1 (gr l i) (bulk_CheckPlan_L1 (i : Int) rec1 (gr l i) k) _ _ = _
    unfold bulk_CheckPlan_B1
    have hx : (gr l i)[q]? = some (cell l i q) := gi_at (by omega)
    have hy : (tb t.demand.length (fun j => if j < q then col l (i + 1) j else col l i j))[q]? = some (col l i q) := by rw [tb_at hq]; simp
    rw [if_pos (by omega), ix_nat hx, ix_nat hy, gd_pos (by omega), ix_nat hy, gd_pos (by omega), show Int.toNat (q : Int) = q from rfl, tb_set]
    refine congrArg (bulk_CheckPlan_L1 (i : Int) rec1 (gr l i) k _) (tb_congr fun j hj => ?_)
    by_cases e : j = q
    · subst e; rw [if_pos rfl, if_pos (by omega)]; rfl
    · rw [if_neg e]
      by_cases e2 : j < q
      · rw [if_pos e2, if_pos (by omega)]
      · rw [if_neg e2, if_neg (by omega)]
  · show bulk_CheckPlan_B1 (i : Int) rec1 (gr l i) (bulk_CheckPlan_L1 (i : Int) rec1 (gr l i) k) _ _ = _
    unfold bulk_CheckPlan_B1
    rw [if_neg (by omega)]
    congr 1
    exact tb_congr fun j hj => by rw [if_pos hj]
theorem CheckPlan_eq (ht : Tsmall t) (hl : Lsmall l) : bulk_CheckPlan t l = some (checkPlan t l) := by
  unfold bulk_CheckPlan checkPlan
  rw [bnd_eq (Validate_eq ht)]
  unfold validate
  have hl1 := hl.1
  have hd1 := ht.2.1
  by_cases hv : okT t = true
  · rw [if_pos hv, if_pos rfl, bnd_eq (table_eq ⟨by have := ht.1; omega, by omega⟩ hl _), if_pos hv]
    by_cases hT : tabB t l 120 = true
    · obtain ⟨h1, h2⟩ := tab_spec hT
      rw [if_pos hT, if_pos hT, gd_pos (by omega)]
      refine Eq.trans (scan_inv0 l.length (rowsB t l) (fun i => tb t.demand.length (col l i)) (fun k s i => bulk_CheckPlan_L2 t l k i s) (bulk_CheckPlan_k1 t (tb t.demand.length (col l l.length))) (some 6) (by rw [show Int.toNat (t.demand.length : Int) = t.demand.length from rfl, rep_tb]; rfl) (fun k i hi _ => ?_) (fun k _ => ?_) (by omega)) ?_
      · have hr := h2 i hi
        show bulk_CheckPlan_B2 t l (bulk_CheckPlan_L2 t l k) _ _ = _
        unfold bulk_CheckPlan_B2 rowsB
        rw [if_pos (by omega), ix_nat (gr_at hi), bnd_eq (total_eq (M := 120) (by decide) (by omega) hr.2.1), ix_nat (gi_at (by omega))]
        by_cases he : tot (gr l i) = gi t.supply i
        · rw [if_pos he, add_loop hl1 hd1 hT hi, if_pos (by simpa using he)]
          unfold bulk_CheckPlan_k2
          rw [gd_pos (by omega)]; rfl
        · rw [if_neg he, if_neg (by simpa using he)]
      · show bulk_CheckPlan_B2 t l (bulk_CheckPlan_L2 t l k) _ _ = _
        unfold bulk_CheckPlan_B2
        rw [if_neg (by omega)]
      · by_cases hc : ∀ i, i < l.length → rowsB t l i = true
        · rw [if_pos hc, if_pos hc]
          unfold bulk_CheckPlan_k1
          rw [bnd_eq (equal_eq (by rw [tb_len]; omega))]
          by_cases he : tb t.demand.length (col l l.length) = t.demand
          · rw [decide_eq_true he, if_pos rfl, if_pos he]
          · rw [decide_eq_false he, if_neg (by simp), if_neg he]
        · rw [if_neg hc, if_neg hc]
    · rw [if_neg hT, if_neg hT]
  · rw [if_neg hv, if_neg (by decide), if_neg hv]
def rowCost (t : Trade) (l : List (List Int)) (i j : Nat) : Int := sumN j (fun q => cell l i q * cell t.cost i q)
def costN (t : Trade) (l : List (List Int)) (i : Nat) : Int := sumN i (fun q => rowCost t l q t.demand.length)
theorem mul_bnd {x y X Y : Int} (hx : 0 ≤ x ∧ x ≤ X) (hy : 0 ≤ y ∧ y ≤ Y) : 0 ≤ x * y ∧ x * y ≤ X * Y :=
  ⟨Int.mul_nonneg hx.1 hy.1, Int.le_trans (Int.mul_le_mul_of_nonneg_right hx.2 hy.1) (Int.mul_le_mul_of_nonneg_left hy.2 (by omega))⟩
theorem cell_cost (hv : okT t = true) (h : tabB t l 120 = true) {i j : Nat} (hi : i < l.length) (hj : j < t.demand.length) : 0 ≤ cell l i j * cell t.cost i j ∧ cell l i j * cell t.cost i j ≤ 11880 := by
  have h1 := tab_spec h
  have h2 := tab_spec (okT_spec hv).2.2.2
  exact mul_bnd (X := 120) (Y := 99) ((h1.2 i hi).2.2 j hj) ((h2.2 i (by omega)).2.2 j hj)
theorem rowCost_bnd (hv : okT t = true) (h : tabB t l 120 = true) {i j : Nat} (hi : i < l.length) (hj : j ≤ t.demand.length) : 0 ≤ rowCost t l i j ∧ rowCost t l i j ≤ 11880 * (j : Int) :=
  sumN_bnd j (fun q hq => cell_cost hv h hi (by omega))
theorem costN_bnd (hv : okT t = true) (h : tabB t l 120 = true) {i : Nat} (hi : i ≤ l.length) : 0 ≤ costN t l i ∧ costN t l i ≤ 47520 * (i : Int) := by
  have hd := (okT_spec hv).2.1.2.1
  exact sumN_bnd i (fun q hq => by have := rowCost_bnd hv h (i := q) (by omega) (Nat.le_refl _); omega)
theorem cost_in (hv : okT t = true) (h : tabB t l 120 = true) {i : Nat} (hi : i < l.length) (rec1 : Int → Int → Option Int) : bulk_cost_L1 t (i : Int) rec1 (gr l i) FU (costN t l i) 0 = bulk_cost_k2 (i : Int) rec1 (costN t l (i + 1)) := by
  obtain ⟨h1, h2⟩ := tab_spec h
  obtain ⟨c1, c2⟩ := tab_spec (okT_spec hv).2.2.2
  have hd := (okT_spec hv).2.1.2.1
  have hs := (okT_spec hv).1.2.1
  have hr := h2 i hi
  have hc := c2 i (by omega)
  have hb := costN_bnd hv h (i := i) (by omega)
  refine for0 t.demand.length (fun j => costN t l i + rowCost t l i j) (fun k s q => bulk_cost_L1 t (i : Int) rec1 (gr l i) k s q) _ (by simp [rowCost, sumN]) (fun k q hq => ?_) (fun k => ?_) (by omega)
  · have hx : (gr l i)[q]? = some (cell l i q) := gi_at (by omega)
    have hy : (gr t.cost i)[q]? = some (cell t.cost i q) := gi_at (by omega)
    have b1 := rowCost_bnd hv h hi (j := q) (by omega)
    have b2 := cell_cost hv h hi hq
    show bulk_cost_B1 t (i : Int) rec1 (gr l i) (bulk_cost_L1 t (i : Int) rec1 (gr l i) k) _ _ = _
    unfold bulk_cost_B1
    rw [if_pos (by omega), ix_nat hx, ix_nat (gr_at (by omega)), ix_nat hy, gd_pos (by omega), gd_pos (by omega), gd_pos (by omega), Int.add_assoc]; rfl
  · show bulk_cost_B1 t (i : Int) rec1 (gr l i) (bulk_cost_L1 t (i : Int) rec1 (gr l i) k) _ _ = _
    unfold bulk_cost_B1
    rw [if_neg (by omega)]; rfl
theorem cost_eq (hv : okT t = true) (h : tabB t l 120 = true) : bulk_cost t l = some (costN t l l.length) := by
  obtain ⟨h1, h2⟩ := tab_spec h
  have hs := (okT_spec hv).1.2.1
  unfold bulk_cost
  refine for0 l.length (costN t l) (fun k s i => bulk_cost_L2 t l k s i) _ rfl (fun k i hi => ?_) (fun k => ?_) (by omega)
  · show bulk_cost_B2 t l (bulk_cost_L2 t l k) _ _ = _
    unfold bulk_cost_B2
    rw [if_pos (by omega), ix_nat (gr_at hi), cost_in hv h hi]
    unfold bulk_cost_k2
    rw [gd_pos (by omega)]; rfl
  · show bulk_cost_B2 t l (bulk_cost_L2 t l k) _ _ = _
    unfold bulk_cost_B2
    rw [if_neg (by omega)]; rfl
theorem rcost_in (hv : okT t = true) (h : tabB t l 120 = true) {i : Nat} (hi : i < l.length) (rec1 : Int → Int → Option Int) : ref07_cost_L1 t l (i : Int) rec1 FU (costN t l i) 0 = ref07_cost_k2 (i : Int) rec1 (costN t l (i + 1)) := by
  obtain ⟨h1, h2⟩ := tab_spec h
  obtain ⟨c1, c2⟩ := tab_spec (okT_spec hv).2.2.2
  have hd := (okT_spec hv).2.1.2.1
  have hs := (okT_spec hv).1.2.1
  have hr := h2 i hi
  have hc := c2 i (by omega)
  have hb := costN_bnd hv h (i := i) (by omega)
  refine for0 t.demand.length (fun j => costN t l i + rowCost t l i j) (fun k s q => ref07_cost_L1 t l (i : Int) rec1 k s q) _ (by simp [rowCost, sumN]) (fun k q hq => ?_) (fun k => ?_) (by omega)
  · have hx : (gr l i)[q]? = some (cell l i q) := gi_at (by omega)
    have hy : (gr t.cost i)[q]? = some (cell t.cost i q) := gi_at (by omega)
    have b1 := rowCost_bnd hv h hi (j := q) (by omega)
    have b2 := cell_cost hv h hi hq
    show ref07_cost_B1 t l (i : Int) rec1 (ref07_cost_L1 t l (i : Int) rec1 k) _ _ = _
    unfold ref07_cost_B1
    rw [ix_nat (gr_at hi), if_pos (by omega), ix_nat (gr_at hi), ix_nat hx, ix_nat (gr_at (by omega)), ix_nat hy, gd_pos (by omega), gd_pos (by omega), gd_pos (by omega), Int.add_assoc]; rfl
  · show ref07_cost_B1 t l (i : Int) rec1 (ref07_cost_L1 t l (i : Int) rec1 k) _ _ = _
    unfold ref07_cost_B1
    rw [ix_nat (gr_at hi), if_neg (by omega)]; rfl
theorem rcost_eq (hv : okT t = true) (h : tabB t l 120 = true) : ref07_cost t l = some (costN t l l.length) := by
  obtain ⟨h1, h2⟩ := tab_spec h
  have hs := (okT_spec hv).1.2.1
  unfold ref07_cost
  refine for0 l.length (costN t l) (fun k s i => ref07_cost_L2 t l k s i) _ rfl (fun k i hi => ?_) (fun k => ?_) (by omega)
  · show ref07_cost_B2 t l (ref07_cost_L2 t l k) _ _ = _
    unfold ref07_cost_B2
    rw [if_pos (by omega), rcost_in hv h hi]
    unfold ref07_cost_k2
    rw [gd_pos (by omega)]; rfl
  · show ref07_cost_B2 t l (ref07_cost_L2 t l k) _ _ = _
    unfold ref07_cost_B2
    rw [if_neg (by omega)]; rfl
def costR (t : Trade) (l : List (List Int)) : Int × Int := if checkPlan t l = 0 then (costN t l l.length, 0) else (0, checkPlan t l)
theorem check0 (h : checkPlan t l = 0) : okT t = true ∧ tabB t l 120 = true ∧ (∀ i, i < l.length → tot (gr l i) = gi t.supply i) ∧ ∀ j, j < t.demand.length → col l l.length j = gi t.demand j := by
  unfold checkPlan at h
  split at h
  · rename_i hv
    split at h
    · rename_i hT
      split at h
      · rename_i hr
        split at h
        · rename_i hc
          refine ⟨hv, hT, fun i hi => by simpa [rowsB] using hr i hi, fun j hj => ?_⟩
          have := tb_gi (f := col l l.length) hj
          rw [hc] at this
          exact this.symm
        · cases h
      · cases h
    · cases h
  · cases h
theorem Cost_eq (ht : Tsmall t) (hl : Lsmall l) : bulk_Cost t l = some (costR t l) := by
  unfold bulk_Cost costR
  rw [bnd_eq (CheckPlan_eq ht hl)]
  by_cases h : checkPlan t l = 0
  · obtain ⟨h1, h2, _⟩ := check0 h
    rw [if_pos h, if_pos h, bnd_eq (cost_eq h1 h2)]
  · rw [if_neg h, if_neg h]
end
instance (l : List (List Int)) : Decidable (Lsmall l) := by unfold Lsmall; infer_instance
theorem tabLong_eq {l : List (List Int)} (hl : l.length ≤ 9223372036854775807) : law07_table l = some (!(l.all (fun r => decide (r.length ≤ 50)) && decide (l.length ≤ 50))) := by
  unfold law07_table
  rw [list_loop0 l (fun r => decide (r.length ≤ 50)) (law07_table_L1 l) (some (decide (50 < l.length))) (some true) (fun k i x hx => ?_) (fun k => ?_) hl]
  · cases l.all (fun r => decide (r.length ≤ 50))
    · rfl
    · rw [if_pos rfl, Bool.true_and]
      congr 1
      rw [Bool.eq_iff_iff]; simp
  · have := lt_of_at hx
    show law07_table_B1 l (law07_table_L1 l k) _ = _
    unfold law07_table_B1
    rw [if_pos (by omega), ix_nat hx]
    by_cases h : x.length ≤ 50
    · rw [if_neg (by omega), gd_pos (by omega), if_pos (by simpa using h)]; rfl
    · rw [if_pos (by omega), if_neg (by simpa using h)]
  · show law07_table_B1 l (law07_table_L1 l k) _ = _
    unfold law07_table_B1 law07_table_k1
    rw [if_neg (by omega)]
    congr 1
    exact decide_eq_decide.2 (by omega)
theorem small_iff {l : List (List Int)} : (!(l.all (fun r => decide (r.length ≤ 50)) && decide (l.length ≤ 50))) = false ↔ Lsmall l := by
  unfold Lsmall
  simp only [Bool.not_eq_false', Bool.and_eq_true, List.all_eq_true, decide_eq_true_eq]
  exact ⟨fun h => ⟨h.2, h.1⟩, fun h => ⟨h.2, h.1⟩⟩
/-- Long says true, or all is small. -/
theorem Long0 {t : Trade} (h3 : t.cost.length ≤ 9223372036854775807) : (law07_Long t [] = some true) ∨ (law07_Long t [] = some false ∧ Tsmall t) := by
  have e : law07_Long t [] = law07_Long_k1 t := by
    unfold law07_Long
    rw [list_loop0 ([] : List (List (List Int))) (fun _ => true) (law07_Long_L1 t []) (law07_Long_k1 t) (some true) (fun k i x hx => by cases hx) (fun k => ?_) (by simp)]
    · rfl
    · show law07_Long_B1 t [] (law07_Long_L1 t [] k) _ = _
      unfold law07_Long_B1
      rw [if_neg (by simp)]
  rw [e]
  unfold law07_Long_k1
  by_cases a : (50 : Int) < (t.supply.length : Int)
  · rw [if_pos a]; exact .inl rfl
  · rw [if_neg a]
    by_cases b : (50 : Int) < (t.demand.length : Int)
    · rw [if_pos b]; exact .inl rfl
    · rw [if_neg b, bnd_eq (tabLong_eq h3)]
      cases hq : (!(t.cost.all (fun r => decide (r.length ≤ 50)) && decide (t.cost.length ≤ 50)))
      · have := small_iff.1 hq
        exact .inr ⟨rfl, by omega, by omega, this.1, this.2⟩
      · exact .inl rfl
theorem Long1 {t : Trade} {l : List (List Int)} (h3 : t.cost.length ≤ 9223372036854775807) (h4 : l.length ≤ 9223372036854775807) : (law07_Long t [l] = some true) ∨ (law07_Long t [l] = some false ∧ Tsmall t ∧ Lsmall l) := by
  have e : law07_Long t [l] = if Lsmall l then law07_Long t [] else some true := by
    have e0 : law07_Long t [] = law07_Long_k1 t := by
      unfold law07_Long
      rw [list_loop0 ([] : List (List (List Int))) (fun _ => true) (law07_Long_L1 t []) (law07_Long_k1 t) (some true) (fun k i x hx => by cases hx) (fun k => ?_) (by simp)]
      · rfl
      · show law07_Long_B1 t [] (law07_Long_L1 t [] k) _ = _
        unfold law07_Long_B1
        rw [if_neg (by simp)]
    rw [e0]
    unfold law07_Long
    have hq := tabLong_eq h4
    rw [list_loop0 [l] (fun x => (x.all (fun r => decide (r.length ≤ 50)) && decide (x.length ≤ 50))) (law07_Long_L1 t [l]) (law07_Long_k1 t) (some true) (fun k i x hx => ?_) (fun k => ?_) (by simp)]
    · by_cases hs : Lsmall l
      · have := small_iff.2 hs
        rw [if_pos hs, if_pos (by simpa using this)]
      · rw [if_neg hs, if_neg]
        intro hc
        apply hs
        apply small_iff.1
        simp only [List.all_cons, List.all_nil, Bool.and_true] at hc
        rw [hc]; rfl
    · have hlt := lt_of_at hx
      simp only [List.length_singleton] at hlt
      obtain rfl : i = 0 := by omega
      simp at hx
      subst hx
      show law07_Long_B1 t [l] (law07_Long_L1 t [l] k) _ = _
      unfold law07_Long_B1
      rw [if_pos (by simp), ix_nat (i := 0) (x := l) rfl, bnd_eq hq]
      cases (l.all (fun r => decide (r.length ≤ 50)) && decide (l.length ≤ 50))
      · rfl
      · rw [if_neg (by simp), gd_pos (by omega), if_pos rfl]; rfl
    · show law07_Long_B1 t [l] (law07_Long_L1 t [l] k) _ = _
      unfold law07_Long_B1
      rw [if_neg (by simp)]
  rw [e]
  by_cases hs : Lsmall l
  · rw [if_pos hs]
    rcases Long0 (t := t) h3 with h | ⟨h, h2⟩
    · exact .inl h
    · exact .inr ⟨h, h2, hs⟩
  · rw [if_neg hs]; exact .inl rfl
end Go.D7
