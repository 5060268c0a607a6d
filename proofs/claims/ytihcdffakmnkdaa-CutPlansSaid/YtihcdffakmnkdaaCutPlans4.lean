/- Lemmas and walks that the proof of this claim uses: D4m8, D4m9D, D4m9, D4m10D. -/
import Derived.Test.YtihcdffakmnkdaaCutPlans3
import Derived.Test.YtihcdffakmnkdaaProg
import Derived.KernelRfl
set_option linter.unusedVariables false
set_option linter.unusedSimpArgs false
namespace Go.D4
open Go.Tb Go.Proofs Go.RowKit

theorem Tz24 : tyZ Try.prog 24 = some (.agg #[.slice none 0 0]) := by kernel_rfl

set_option maxRecDepth 20000 in
set_option maxHeartbeats 1000000 in
theorem cut_Toll_ok {a0 : Bog} {a1 : Int} {A_a0_worth : Option Addr} {c_a0_worth : Nat} {w : World} {res : Bog × Int} (h_a0_worth : Sl2 w A_a0_worth c_a0_worth 1 encN a0.worth) (F : cut_Toll a0 a1 = some res) : Calls Try.prog 47 #[.agg #[.slice A_a0_worth a0.worth.length c_a0_worth], .int .i64 a1] w (fun e w' => ∃ (A0_worth : Option Addr) (c0_worth : Nat) (hs0_worth : List (Option Addr × Nat)), e = .returned (.tuple #[.agg #[.slice A0_worth res.1.worth.length c0_worth], .int .i64 res.2]) ∧ Hp w w' [.tab A0_worth c0_worth 25 hs0_worth 3 1 (encM encN res.1.worth)]) := by
  refine calls_of_cw (args := [.agg #[.slice A_a0_worth a0.worth.length c_a0_worth], .int .i64 a1]) Try.func47 rfl rfl rfl rfl ?_
  have H := Hp.start w
  have R0 := H.ext
  unfold cut_Toll at F
  refine CW.seq fun K1 hK1 => ?_
  refine CW.region ?_
  refine LW.go rfl rfl (OW.box rfl fun b1 w1 N1 => ?_)
  replace H := H.new N1 N1.blk
  replace R0 := H.ext
  refine LW.go rfl rfl (OW.alloc Tz24 fun b2 w2 N2 => ?_)
  replace H := H.new N2 N2.blk
  replace R0 := H.ext
  refine LW.pure rfl rfl (RV.assign rfl) ?_
  refine LW.nil (hK1 _ _ ?_)
  refine CW.seq fun K2 hK2 => ?_
  refine CW.seq fun K3 hK3 => ?_
  obtain ⟨r2, hr2, F⟩ := bnd_some F
  refine CW.region ?_
  refine LW.pure rfl rfl (RV.loadA [.slice A_a0_worth a0.worth.length c_a0_worth] Tk24 rfl (H.blk 1 rfl).cells rfl rfl) ?_
  refine LW.go rfl rfl (OW.call Tc25 rfl (cut_Validate_ok (a0 := a0) (h_a0_worth.ext R0) hr2) ?_)
  rintro _ w3 ⟨rfl, E1⟩
  refine ⟨_, rfl, ?_⟩
  replace H := H.grow E1
  replace R0 := H.ext
  refine LW.pure rfl rfl (RV.assign rfl) ?_
  refine LW.nil (hK3 _ _ ?_)
  refine CW.seq fun K4 hK4 => ?_
  refine CW.region ?_
  refine LW.pure rfl rfl (RV.move rfl) ?_
  refine LW.pure rfl rfl (RV.nei rfl rfl) ?_
  refine LW.nil (hK4 _ _ ?_)
  by_cases hp1 : r2 = 0
  ·
    replace F := ite_y hp1 F
    have hq1 := dec_t hp1
    refine CW.condF rfl (not_f hq1) ?_
    refine CW.skip (hK2 _ _ ?_)
    refine CW.seq fun K5 hK5 => ?_
    refine CW.seq fun K6 hK6 => ?_
    obtain ⟨r3, hr3, F⟩ := bnd_some F
    refine CW.region ?_
    refine LW.pure rfl rfl (RV.move rfl) ?_
    refine LW.go rfl rfl (OW.call Tc67 rfl (cut_from_ok (a0 := a1) (a1 := (-50 : Int)) (a2 := (50 : Int)) hr3) ?_)
    rintro _ w4 ⟨rfl, E2⟩
    refine ⟨_, rfl, ?_⟩
    replace H := H.grow E2
    replace R0 := H.ext
    refine LW.pure rfl rfl (RV.not rfl) ?_
    refine LW.nil (hK6 _ _ ?_)
    by_cases hp2 : r3 = true
    ·
      replace F := ite_y hp2 F
      have hq2 : r3 = true := hp2
      refine CW.condF rfl (not_f hq2) ?_
      refine CW.skip (hK5 _ _ ?_)
      refine CW.seq fun K7 hK7 => ?_
      refine CW.region ?_
      refine LW.go rfl rfl (OW.alloc Tz24 fun b3 w5 N3 => ?_)
      replace H := H.new N3 N3.blk
      replace R0 := H.ext
      refine LW.nil (hK7 _ _ ?_)
      refine CW.seqJ (fun ρ wl1 => (∃ (m1 : List (List Int)) (hsm1 : List (Option Addr × Nat)) (Am1 : Option Addr) (cm1 : Nat), cut_Toll_k1 m1 = some res ∧ ρ = [(4, .pointer (some (⟨b2, 0, none⟩))), (5, .int .i64 0), (7, .pointer (some (⟨b3, 0, none⟩)))] ∧ Hp w wl1 [.tab Am1 cm1 25 hsm1 3 1 (encM encN m1), .blk b2 24 [.slice none 0 0], .blk b3 24 [.slice Am1 m1.length cm1]])) ?_ ?_
      ·
        rintro _ wl1 ⟨m1, hsm1, Am1, cm1, F, rfl, H⟩
        have R0 := H.ext
        unfold cut_Toll_k1 at F
        refine CW.seq fun K8 hK8 => ?_
        refine CW.seq fun K9 hK9 => ?_
        obtain ⟨r1, hr1, F⟩ := bnd_some F
        refine CW.region ?_
        refine LW.pure rfl rfl (RV.loadA [.slice Am1 m1.length cm1] Tk24 rfl (H.blk 2 rfl).cells rfl rfl) ?_
        refine LW.go rfl rfl (OW.call Tc25 rfl (cut_Validate_ok (a0 := (⟨m1⟩ : Bog)) (H.tab 0 rfl).sl2 hr1) ?_)
        rintro _ w6 ⟨rfl, E3⟩
        refine ⟨_, rfl, ?_⟩
        replace H := H.grow E3
        replace R0 := H.ext
        refine LW.pure rfl rfl (RV.nei rfl rfl) ?_
        refine LW.nil (hK9 _ _ ?_)
        by_cases hp3 : r1 = 0
        ·
          replace F := ite_y hp3 F
          have hq3 := dec_t hp3
          refine CW.condF rfl (not_f hq3) ?_
          refine CW.skip (hK8 _ _ ?_)
          refine CW.seq fun K10 hK10 => ?_
          refine CW.region ?_
          refine LW.pure rfl rfl (RV.loadA [.slice Am1 m1.length cm1] Tk24 rfl (H.blk 2 rfl).cells rfl rfl) ?_
          refine LW.go rfl rfl (OW.store Tk24 rfl rfl (H.blk 1 rfl) (off := 0) (vs := [.slice Am1 m1.length cm1]) rfl rfl rfl rfl rfl fun w7 S1 => ?_)
          replace H : Hp w w7 [.tab Am1 cm1 25 hsm1 3 1 (encM encN m1), .blk b2 24 [.slice Am1 m1.length cm1], .blk b3 24 [.slice Am1 m1.length cm1]] := H.stored 1 rfl S1
          replace R0 := H.ext
          refine LW.pure rfl rfl (RV.assign rfl) ?_
          refine LW.nil (hK10 _ _ ?_)
          refine CW.ret ?_
          obtain rfl := Option.some.inj F
          refine ⟨_, (ResOK.two ⟨_, rfl, run_loadVar_agg Tk24 (H.blk 1 rfl).cells (us := [.slice Am1 m1.length cm1]) rfl rfl⟩ rfl), ?_⟩
          replace H := H.pick (L' := [.tab Am1 cm1 25 hsm1 3 1 (encM encN m1)]) [0] (by decide) rfl
          replace R0 := H.ext
          exact ⟨Am1, cm1, hsm1, (by first | rfl | (simp; done) | (simp; omega)), H⟩
        ·
          replace F := ite_n hp3 F
          have hq3 := dec_f hp3
          refine CW.condT rfl (not_t hq3) ?_
          refine CW.seq fun K11 hK11 => ?_
          refine CW.region ?_
          refine LW.pure rfl rfl (RV.build (vs := []) (cs := [.slice none 0 0]) rfl (fun _ => by kernel_rfl)) ?_
          refine LW.go rfl rfl (OW.store Tk24 rfl rfl (H.blk 1 rfl) (off := 0) (vs := [.slice none 0 0]) rfl rfl rfl rfl rfl fun w8 S2 => ?_)
          replace H : Hp w w8 [.tab Am1 cm1 25 hsm1 3 1 (encM encN m1), .blk b2 24 [.slice none 0 0], .blk b3 24 [.slice Am1 m1.length cm1]] := H.stored 1 rfl S2
          replace R0 := H.ext
          refine LW.pure rfl rfl (RV.assign rfl) ?_
          refine LW.nil (hK11 _ _ ?_)
          refine CW.ret ?_
          obtain rfl := Option.some.inj F
          refine ⟨_, (ResOK.two ⟨_, rfl, run_loadVar_agg Tk24 (H.blk 1 rfl).cells (us := [.slice none 0 0]) rfl rfl⟩ rfl), ?_⟩
          replace H := H.nilTab encN 25 3 1
          replace R0 := H.ext
          replace H := H.pick (L' := [.tab none 0 25 ([]) 3 1 (encM encN (([] : List (List Int))))]) [0] (by decide) rfl
          replace R0 := H.ext
          exact ⟨none, 0, ([]), (by first | rfl | (simp; done) | (simp; omega)), H⟩
      ·
        intro K12 hK12 jK578
        refine CW.seq fun K13 hK13 => ?_
        refine CW.region ?_
        refine LW.pure rfl rfl (RV.fieldAddr Tf24_0 rfl) ?_
        refine LW.pure rfl rfl (RV.load1 Tk22 rfl ((H.blk 2 rfl).cells.off 0) rfl) ?_
        refine LW.pure rfl rfl (RV.len Ts22 rfl) ?_
        refine LW.pure rfl rfl (RV.move rfl) ?_
        refine LW.nil (hK13 _ _ ?_)
        refine CW.block ?_
        replace H := H.nilTab encN 25 3 1
        replace R0 := H.ext
        replace H := H.pick (L' := [.tab none 0 25 ([]) 3 1 (encM encN (([] : List (List Int)))), .blk b2 24 [.slice none 0 0], .blk b3 24 [.slice none 0 0]]) [0, 2, 1] (by decide) rfl
        replace R0 := H.ext
        replace H := H.cast (L' := [.tab none 0 25 ([]) 3 1 (encM encN (([] : List (List Int)))), .blk b2 24 [.slice none 0 0], .blk b3 24 [.slice none ((([] : List (List Int))).length) 0]]) (by first | rfl | (simp only [List.length_set]; done) | simp)
        refine CW.loop (fun meas ρ wl2 => ∃ (t26_1 : Int) (m3 : List (List Int)) (hsm3 : List (Option Addr × Nat)) (Am3 : Option Addr) (cm3 : Nat), cut_Toll_L2 a0 a1 meas t26_1 m3 = some res ∧ ρ = [(1, .int .i64 a1), (4, .pointer (some (⟨b2, 0, none⟩))), (5, .int .i64 0), (7, .pointer (some (⟨b3, 0, none⟩))), (24, .slice A_a0_worth a0.worth.length c_a0_worth), (25, .int .i64 ((a0.worth.length : Int))), (26, .int .i64 t26_1)] ∧ Hp w wl2 [.tab Am3 cm3 25 hsm3 3 1 (encM encN m3), .blk b2 24 [.slice none 0 0], .blk b3 24 [.slice Am3 m3.length cm3]]) FU ⟨_, ?_, ((0 : Int)), (([] : List (List Int))), ([]), none, 0, F, rfl, H⟩ ?_
        · exact ⟨rfl, rfl, rfl, rfl, rfl, rfl, rfl, trivial⟩
        rintro mk1 _ wl2 ⟨t26_1, m3, hsm3, Am3, cm3, F, rfl, H⟩
        have R0 := H.ext
        replace F := cut_Toll_L2_s F
        obtain ⟨mk1, rfl, F⟩ := F
        generalize hrec1 : cut_Toll_L2 a0 a1 mk1 = rec1 at F
        unfold cut_Toll_B2 at F
        refine CW.seq fun K14 hK14 => ?_
        refine CW.region ?_
        refine LW.pure rfl rfl (RV.lss rfl rfl) ?_
        refine LW.nil (hK14 _ _ ?_)
        refine CW.seq fun K15 hK15 => ?_
        by_cases hp4 : t26_1 < ((a0.worth.length : Int))
        ·
          replace F := ite_y hp4 F
          have hq4 := dec_t hp4
          refine CW.condT rfl hq4 ?_
          refine CW.skip (hK15 _ _ ?_)
          refine CW.seqJ (fun ρ wl3 => (∃ (m2 : List (List Int)) (hsm2 : List (Option Addr × Nat)) (Am2 : Option Addr) (cm2 : Nat), cut_Toll_k2 t26_1 rec1 m2 = some res ∧ ρ = [(1, .int .i64 a1), (4, .pointer (some (⟨b2, 0, none⟩))), (5, .int .i64 0), (7, .pointer (some (⟨b3, 0, none⟩))), (24, .slice A_a0_worth a0.worth.length c_a0_worth), (25, .int .i64 ((a0.worth.length : Int))), (26, .int .i64 t26_1)] ∧ Hp w wl3 [.tab Am2 cm2 25 hsm2 3 1 (encM encN m2), .blk b2 24 [.slice none 0 0], .blk b3 24 [.slice Am2 m2.length cm2]])) ?_ ?_
          ·
            rintro _ wl3 ⟨m2, hsm2, Am2, cm2, F, rfl, H⟩
            have R0 := H.ext
            unfold cut_Toll_k2 at F
            obtain ⟨hg1, F⟩ := gd_some F
            refine CW.region ?_
            refine LW.pure rfl rfl (RV.add rfl rfl hg1) ?_
            refine LW.pure rfl rfl (RV.move rfl) ?_
            refine LW.nil ?_
            subst hrec1
            refine ⟨mk1, Nat.lt_succ_self _, _, ?_, (t26_1 + 1), m2, hsm2, Am2, cm2, F, rfl, H⟩
            exact ⟨rfl, rfl, rfl, rfl, rfl, rfl, rfl, trivial⟩
          ·
            intro K16 hK16 jK733
            refine CW.block ?_
            refine CW.seq fun K17 hK17 => ?_
            obtain ⟨x1, hbx1, hx1, F⟩ := ix_some F
            refine CW.region ?_
            obtain ⟨A1, c1, hC1, hS1⟩ := h_a0_worth.at_ hx1
            refine LW.pure rfl rfl (RV.indexAddr Ts22 rfl rfl hbx1 (h_a0_worth.addr hbx1)) ?_
            refine LW.pure rfl rfl (RV.load1 Tk25 rfl (hC1.ext R0) rfl) ?_
            refine LW.pure rfl rfl (RV.assign rfl) ?_
            refine LW.nil (hK17 _ _ ?_)
            refine CW.seq fun K18 hK18 => ?_
            refine CW.region ?_
            refine LW.pure rfl rfl (RV.assign rfl) ?_
            refine LW.nil (hK18 _ _ ?_)
            refine CW.seqJ (fun ρ wl4 => (∃ (l1 : List Int) (Al1 : Option Addr) (cl1 : Nat), cut_Toll_k3 t26_1 m3 rec1 l1 = some res ∧ ρ = [(1, .int .i64 a1), (4, .pointer (some (⟨b2, 0, none⟩))), (5, .int .i64 0), (7, .pointer (some (⟨b3, 0, none⟩))), (10, .slice Al1 l1.length cl1), (24, .slice A_a0_worth a0.worth.length c_a0_worth), (25, .int .i64 ((a0.worth.length : Int))), (26, .int .i64 t26_1)] ∧ Hp w wl4 [.own Al1 cl1 3 1 (List.map encN l1), .tab Am3 cm3 25 hsm3 3 1 (encM encN m3), .blk b2 24 [.slice none 0 0], .blk b3 24 [.slice Am3 m3.length cm3]])) ?_ ?_
            ·
              rintro _ wl4 ⟨l1, Al1, cl1, F, rfl, H⟩
              have R0 := H.ext
              unfold cut_Toll_k3 at F
              obtain ⟨hg2, F⟩ := gd_some F
              refine CW.region ?_
              refine LW.pure rfl rfl (RV.fieldAddr Tf24_0 rfl) ?_
              refine LW.pure rfl rfl (RV.load1 Tk22 rfl ((H.blk 3 rfl).cells.off 0) rfl) ?_
              refine LW.pure rfl rfl (RV.move rfl) ?_
              refine LW.go rfl rfl (OW.buildSlice (e := 25) (vs := [.slice Al1 l1.length cl1]) (cs := [.slice Al1 l1.length cl1]) rfl (fun _ => by kernel_rfl) fun b4 w9 N4 => ?_)
              replace H := H.made' (k := 1) (t := 25) (enc := encH) (l := [((Al1, cl1), List.map encN l1)]) N4 (by have q := N4.blk; simp only [List.flatMap_cons, List.flatMap_nil, encH, List.length_map, List.append_nil, List.cons_append, List.nil_append]; first | done | exact q) (fun _ => rfl) rfl (by first | decide | omega | (simp; done) | (simp; omega))
              replace R0 := H.ext
              refine LW.go rfl rfl (OW.appendT (enc := encN) (m := m3) (l := l1) Ts22 rfl rfl (H.tab 2 rfl) (H.own 0 rfl).sl rfl hg2 (by decide) fun A2 c2 w10 O1 M1 D1 => ?_)
              replace H : Hp w w10 [.own (some ⟨b4, 0, none⟩) (([((Al1, cl1), List.map encN l1)]).length) 25 1 (List.map encH ([((Al1, cl1), List.map encN l1)])), .tab A2 c2 25 ((hsm3 ++ [(Al1, cl1)])) 3 1 (encM encN ((m3 ++ [l1]))), .blk b2 24 [.slice none 0 0], .blk b3 24 [.slice Am3 m3.length cm3]] := H.tabPush 2 1 (by decide) rfl rfl M1 D1 O1
              replace R0 := H.ext
              refine LW.pure rfl rfl (RV.fieldAddr Tf24_0 rfl) ?_
              refine LW.go rfl rfl (OW.store Tk22 rfl rfl (H.blk 3 rfl) (off := 0) (vs := [.slice A2 (((m3 ++ [l1])).length) c2]) rfl rfl rfl rfl rfl fun w11 S3 => ?_)
              replace H : Hp w w11 [.own (some ⟨b4, 0, none⟩) (([((Al1, cl1), List.map encN l1)]).length) 25 1 (List.map encH ([((Al1, cl1), List.map encN l1)])), .tab A2 c2 25 ((hsm3 ++ [(Al1, cl1)])) 3 1 (encM encN ((m3 ++ [l1]))), .blk b2 24 [.slice none 0 0], .blk b3 24 [.slice A2 (((m3 ++ [l1])).length) c2]] := H.stored 3 rfl S3
              replace R0 := H.ext
              replace H := H.pick (L' := [.tab A2 c2 25 ((hsm3 ++ [(Al1, cl1)])) 3 1 (encM encN ((m3 ++ [l1]))), .blk b2 24 [.slice none 0 0], .blk b3 24 [.slice A2 (((m3 ++ [l1])).length) c2]]) [1, 2, 3] (by decide) rfl
              replace R0 := H.ext
              refine LW.nil (jK733 _ _ ⟨_, ?_, ⟨((m3 ++ [l1])), ((hsm3 ++ [(Al1, cl1)])), A2, c2, F, rfl, H⟩⟩)
              exact ⟨rfl, rfl, rfl, rfl, rfl, rfl, rfl, trivial⟩
            ·
              intro K19 hK19 jK749
              refine CW.seq fun K20 hK20 => ?_
              refine CW.region ?_
              refine LW.pure rfl rfl (RV.move rfl) ?_
              refine LW.pure rfl rfl (RV.len Ts25 rfl) ?_
              refine LW.pure rfl rfl (RV.move rfl) ?_
              refine LW.nil (hK20 _ _ ?_)
              refine CW.block ?_
              replace H := H.nilOwn 3 1
              replace R0 := H.ext
              refine CW.loop (fun meas ρ wl5 => ∃ (t32_1 : Int) (l2 : List Int) (Al2 : Option Addr) (cl2 : Nat), cut_Toll_L1 a1 t26_1 m3 rec1 x1 meas t32_1 l2 = some res ∧ ρ = [(1, .int .i64 a1), (4, .pointer (some (⟨b2, 0, none⟩))), (5, .int .i64 0), (7, .pointer (some (⟨b3, 0, none⟩))), (10, .slice Al2 l2.length cl2), (24, .slice A_a0_worth a0.worth.length c_a0_worth), (25, .int .i64 ((a0.worth.length : Int))), (26, .int .i64 t26_1), (30, .slice A1 x1.length c1), (31, .int .i64 ((x1.length : Int))), (32, .int .i64 t32_1)] ∧ Hp w wl5 [.own Al2 cl2 3 1 (List.map encN l2), .tab Am3 cm3 25 hsm3 3 1 (encM encN m3), .blk b2 24 [.slice none 0 0], .blk b3 24 [.slice Am3 m3.length cm3]]) FU ⟨_, ?_, ((0 : Int)), (([] : List Int)), none, 0, F, rfl, H⟩ ?_
              · exact ⟨rfl, rfl, rfl, rfl, (look_slice rfl (by first | rfl | (simp; done) | (simp; omega))), rfl, rfl, rfl, rfl, rfl, rfl, trivial⟩
              rintro mk2 _ wl5 ⟨t32_1, l2, Al2, cl2, F, rfl, H⟩
              have R0 := H.ext
              replace F := cut_Toll_L1_s F
              obtain ⟨mk2, rfl, F⟩ := F
              generalize hrec2 : cut_Toll_L1 a1 t26_1 m3 rec1 x1 mk2 = rec2 at F
              unfold cut_Toll_B1 at F
              refine CW.seq fun K21 hK21 => ?_
              refine CW.region ?_
              refine LW.pure rfl rfl (RV.lss rfl rfl) ?_
              refine LW.nil (hK21 _ _ ?_)
              refine CW.seq fun K22 hK22 => ?_
              by_cases hp5 : t32_1 < ((x1.length : Int))
              ·
                replace F := ite_y hp5 F
                have hq5 := dec_t hp5
                refine CW.condT rfl hq5 ?_
                refine CW.skip (hK22 _ _ ?_)
                refine CW.seq fun K23 hK23 => ?_
                refine CW.block ?_
                refine CW.seq fun K24 hK24 => ?_
                obtain ⟨x2, hbx2, hx2, F⟩ := ix_some F
                refine CW.region ?_
                refine LW.pure rfl rfl (RV.indexAddr Ts25 rfl rfl hbx2 (hS1.addr_ hx2)) ?_
                refine LW.pure rfl rfl (RV.load1 Tk3 rfl ((hS1.at_ hx2).ext R0) rfl) ?_
                refine LW.pure rfl rfl (RV.assign rfl) ?_
                refine LW.nil (hK24 _ _ ?_)
                obtain ⟨hg3, F⟩ := gd_some F
                obtain ⟨hg4, F⟩ := gd_some F
                refine CW.region ?_
                refine LW.pure rfl rfl (RV.move rfl) ?_
                refine LW.pure rfl rfl (RV.move rfl) ?_
                refine LW.pure rfl rfl (RV.move rfl) ?_
                refine LW.pure rfl rfl (RV.sub rfl rfl hg3) ?_
                refine LW.go rfl rfl (OW.buildSlice (e := 3) (vs := [.int .i64 (x2 - a1)]) (cs := [.int .i64 (x2 - a1)]) rfl (fun _ => by kernel_rfl) fun b5 w12 N5 => ?_)
                replace H := H.made' (k := 1) (t := 3) (enc := encN) (l := ([x2 - a1] : List Int)) N5 N5.blk (fun _ => rfl) rfl (by first | decide | omega | (simp; done) | (simp; omega))
                replace R0 := H.ext
                refine LW.go rfl rfl (OW.appendG (enc := encN) (l := l2) (xs := ([x2 - a1] : List Int)) Ts25 rfl (look_slice rfl (by first | rfl | (simp; done) | (simp; omega))) (H.own 1 rfl) (H.own 0 rfl).sl (fun _ => rfl) rfl rfl hg4 (by decide) fun A3 c3 w13 O2 M2 D2 => ?_)
                replace H : Hp w w13 [.own (some ⟨b5, 0, none⟩) ((([x2 - a1] : List Int)).length) 3 1 (List.map encN (([x2 - a1] : List Int))), .own A3 c3 3 1 (List.map encN ((l2 ++ ([x2 - a1] : List Int)))), .tab Am3 cm3 25 hsm3 3 1 (encM encN m3), .blk b2 24 [.slice none 0 0], .blk b3 24 [.slice Am3 m3.length cm3]] := H.mod 1 rfl M2 O2 D2
                replace R0 := H.ext
                refine LW.pure rfl rfl (RV.assign rfl) ?_
                refine LW.nil (hK23 _ _ ?_)
                obtain ⟨hg5, F⟩ := gd_some F
                refine CW.region ?_
                refine LW.pure rfl rfl (RV.add rfl rfl hg5) ?_
                refine LW.pure rfl rfl (RV.move rfl) ?_
                refine LW.nil ?_
                replace H := H.pick (L' := [.own A3 c3 3 1 (List.map encN ((l2 ++ ([x2 - a1] : List Int)))), .tab Am3 cm3 25 hsm3 3 1 (encM encN m3), .blk b2 24 [.slice none 0 0], .blk b3 24 [.slice Am3 m3.length cm3]]) [1, 2, 3, 4] (by decide) rfl
                replace R0 := H.ext
                subst hrec2
                refine ⟨mk2, Nat.lt_succ_self _, _, ?_, (t32_1 + 1), ((l2 ++ ([x2 - a1] : List Int))), A3, c3, F, rfl, H⟩
                exact ⟨rfl, rfl, rfl, rfl, (look_slice rfl (by first | rfl | (simp; done) | (simp; omega))), rfl, rfl, rfl, rfl, rfl, rfl, trivial⟩
              ·
                replace F := ite_n hp5 F
                have hq5 := dec_f hp5
                refine CW.condF rfl hq5 ?_
                refine CW.exit (jK749 _ _ ⟨_, ?_, ⟨l2, Al2, cl2, F, rfl, H⟩⟩)
                exact ⟨rfl, rfl, rfl, rfl, (look_slice rfl (by first | rfl | (simp; done) | (simp; omega))), rfl, rfl, rfl, trivial⟩
        ·
          replace F := ite_n hp4 F
          have hq4 := dec_f hp4
          refine CW.condF rfl hq4 ?_
          refine CW.exit (jK578 _ _ ⟨_, ?_, ⟨m3, hsm3, Am3, cm3, F, rfl, H⟩⟩)
          exact ⟨rfl, rfl, rfl, trivial⟩
    ·
      replace F := ite_n hp2 F
      have hq2 : r3 = false := raw_f hp2
      refine CW.condT rfl (not_t hq2) ?_
      refine CW.seq fun K25 hK25 => ?_
      refine CW.region ?_
      refine LW.pure rfl rfl (RV.build (vs := []) (cs := [.slice none 0 0]) rfl (fun _ => by kernel_rfl)) ?_
      refine LW.go rfl rfl (OW.store Tk24 rfl rfl (H.blk 0 rfl) (off := 0) (vs := [.slice none 0 0]) rfl rfl rfl rfl rfl fun w14 S4 => ?_)
      replace H : Hp w w14 [.blk b2 24 [.slice none 0 0], .blk b1 24 [.slice A_a0_worth a0.worth.length c_a0_worth]] := H.stored 0 rfl S4
      replace R0 := H.ext
      refine LW.pure rfl rfl (RV.assign rfl) ?_
      refine LW.nil (hK25 _ _ ?_)
      refine CW.ret ?_
      obtain rfl := Option.some.inj F
      refine ⟨_, (ResOK.two ⟨_, rfl, run_loadVar_agg Tk24 (H.blk 0 rfl).cells (us := [.slice none 0 0]) rfl rfl⟩ rfl), ?_⟩
      replace H := H.nilTab encN 25 3 1
      replace R0 := H.ext
      replace H := H.pick (L' := [.tab none 0 25 ([]) 3 1 (encM encN (([] : List (List Int))))]) [0] (by decide) rfl
      replace R0 := H.ext
      exact ⟨none, 0, ([]), (by first | rfl | (simp; done) | (simp; omega)), H⟩
  ·
    replace F := ite_n hp1 F
    have hq1 := dec_f hp1
    refine CW.condT rfl (not_t hq1) ?_
    refine CW.seq fun K26 hK26 => ?_
    refine CW.region ?_
    refine LW.pure rfl rfl (RV.build (vs := []) (cs := [.slice none 0 0]) rfl (fun _ => by kernel_rfl)) ?_
    refine LW.pure rfl rfl (RV.move rfl) ?_
    refine LW.go rfl rfl (OW.store Tk24 rfl rfl (H.blk 0 rfl) (off := 0) (vs := [.slice none 0 0]) rfl rfl rfl rfl rfl fun w15 S5 => ?_)
    replace H : Hp w w15 [.blk b2 24 [.slice none 0 0], .blk b1 24 [.slice A_a0_worth a0.worth.length c_a0_worth]] := H.stored 0 rfl S5
    replace R0 := H.ext
    refine LW.pure rfl rfl (RV.assign rfl) ?_
    refine LW.nil (hK26 _ _ ?_)
    refine CW.ret ?_
    obtain rfl := Option.some.inj F
    refine ⟨_, (ResOK.two ⟨_, rfl, run_loadVar_agg Tk24 (H.blk 0 rfl).cells (us := [.slice none 0 0]) rfl rfl⟩ rfl), ?_⟩
    replace H := H.nilTab encN 25 3 1
    replace R0 := H.ext
    replace H := H.pick (L' := [.tab none 0 25 ([]) 3 1 (encM encN (([] : List (List Int))))]) [0] (by decide) rfl
    replace R0 := H.ext
    exact ⟨none, 0, ([]), (by first | rfl | (simp; done) | (simp; omega)), H⟩

set_option maxRecDepth 20000 in
set_option maxHeartbeats 1000000 in
theorem ref04_Copy_ok {a0 : Bog} {A_a0_worth : Option Addr} {c_a0_worth : Nat} {w : World} {res : Bog} (h_a0_worth : Sl2 w A_a0_worth c_a0_worth 1 encN a0.worth) (F : ref04_Copy a0 = some res) : Calls Try.prog 43 #[.agg #[.slice A_a0_worth a0.worth.length c_a0_worth]] w (fun e w' => ∃ (A0_worth : Option Addr) (c0_worth : Nat) (hs0_worth : List (Option Addr × Nat)), e = .returned (.agg #[.slice A0_worth res.worth.length c0_worth]) ∧ Hp w w' [.tab A0_worth c0_worth 25 hs0_worth 3 1 (encM encN res.worth)]) := by
  refine calls_of_cw (args := [.agg #[.slice A_a0_worth a0.worth.length c_a0_worth]]) Try.func43 rfl rfl rfl rfl ?_
  have H := Hp.start w
  have R0 := H.ext
  unfold ref04_Copy at F
  refine CW.seq fun K1 hK1 => ?_
  refine CW.region ?_
  refine LW.go rfl rfl (OW.box rfl fun b1 w1 N1 => ?_)
  replace H := H.new N1 N1.blk
  replace R0 := H.ext
  refine LW.go rfl rfl (OW.alloc Tz24 fun b2 w2 N2 => ?_)
  replace H := H.new N2 N2.blk
  replace R0 := H.ext
  refine LW.nil (hK1 _ _ ?_)
  refine CW.seq fun K2 hK2 => ?_
  refine CW.region ?_
  refine LW.go rfl rfl (OW.alloc Tz24 fun b3 w3 N3 => ?_)
  replace H := H.new N3 N3.blk
  replace R0 := H.ext
  refine LW.nil (hK2 _ _ ?_)
  refine CW.seqJ (fun ρ wl1 => (∃ (m1 : List (List Int)) (hsm1 : List (Option Addr × Nat)) (Am1 : Option Addr) (cm1 : Nat), ref04_Copy_k1 m1 = some res ∧ ρ = [(2, .pointer (some (⟨b2, 0, none⟩))), (3, .pointer (some (⟨b3, 0, none⟩)))] ∧ Hp w wl1 [.tab Am1 cm1 25 hsm1 3 1 (encM encN m1), .blk b2 24 [.slice none 0 0], .blk b3 24 [.slice Am1 m1.length cm1]])) ?_ ?_
  ·
    rintro _ wl1 ⟨m1, hsm1, Am1, cm1, F, rfl, H⟩
    have R0 := H.ext
    unfold ref04_Copy_k1 at F
    refine CW.seq fun K3 hK3 => ?_
    refine CW.region ?_
    refine LW.pure rfl rfl (RV.loadA [.slice Am1 m1.length cm1] Tk24 rfl (H.blk 2 rfl).cells rfl rfl) ?_
    refine LW.go rfl rfl (OW.store Tk24 rfl rfl (H.blk 1 rfl) (off := 0) (vs := [.slice Am1 m1.length cm1]) rfl rfl rfl rfl rfl fun w4 S1 => ?_)
    replace H : Hp w w4 [.tab Am1 cm1 25 hsm1 3 1 (encM encN m1), .blk b2 24 [.slice Am1 m1.length cm1], .blk b3 24 [.slice Am1 m1.length cm1]] := H.stored 1 rfl S1
    replace R0 := H.ext
    refine LW.nil (hK3 _ _ ?_)
    refine CW.ret ?_
    obtain rfl := Option.some.inj F
    refine ⟨_, (ResOK.cell1 ⟨_, rfl, run_loadVar_agg Tk24 (H.blk 1 rfl).cells (us := [.slice Am1 m1.length cm1]) rfl rfl⟩), ?_⟩
    replace H := H.pick (L' := [.tab Am1 cm1 25 hsm1 3 1 (encM encN m1)]) [0] (by decide) rfl
    replace R0 := H.ext
    exact ⟨Am1, cm1, hsm1, (by first | rfl | (simp; done) | (simp; omega)), H⟩
  ·
    intro K4 hK4 jK38
    refine CW.seq fun K5 hK5 => ?_
    refine CW.region ?_
    refine LW.pure rfl rfl (RV.assign rfl) ?_
    refine LW.nil (hK5 _ _ ?_)
    refine CW.block ?_
    replace H := H.nilTab encN 25 3 1
    replace R0 := H.ext
    replace H := H.pick (L' := [.tab none 0 25 ([]) 3 1 (encM encN (([] : List (List Int)))), .blk b1 24 [.slice A_a0_worth a0.worth.length c_a0_worth], .blk b2 24 [.slice none 0 0], .blk b3 24 [.slice none 0 0]]) [0, 3, 2, 1] (by decide) rfl
    replace R0 := H.ext
    replace H := H.cast (L' := [.tab none 0 25 ([]) 3 1 (encM encN (([] : List (List Int)))), .blk b1 24 [.slice A_a0_worth a0.worth.length c_a0_worth], .blk b2 24 [.slice none 0 0], .blk b3 24 [.slice none ((([] : List (List Int))).length) 0]]) (by first | rfl | (simp only [List.length_set]; done) | simp)
    refine CW.loop (fun meas ρ wl2 => ∃ (t4_1 : Int) (m2 : List (List Int)) (hsm2 : List (Option Addr × Nat)) (Am2 : Option Addr) (cm2 : Nat), ref04_Copy_L1 a0 meas t4_1 m2 = some res ∧ ρ = [(1, .pointer (some (⟨b1, 0, none⟩))), (2, .pointer (some (⟨b2, 0, none⟩))), (3, .pointer (some (⟨b3, 0, none⟩))), (4, .int .i64 t4_1)] ∧ Hp w wl2 [.tab Am2 cm2 25 hsm2 3 1 (encM encN m2), .blk b1 24 [.slice A_a0_worth a0.worth.length c_a0_worth], .blk b2 24 [.slice none 0 0], .blk b3 24 [.slice Am2 m2.length cm2]]) FU ⟨_, ?_, ((0 : Int)), (([] : List (List Int))), ([]), none, 0, F, rfl, H⟩ ?_
    · exact ⟨rfl, rfl, rfl, rfl, trivial⟩
    rintro mk1 _ wl2 ⟨t4_1, m2, hsm2, Am2, cm2, F, rfl, H⟩
    have R0 := H.ext
    replace F := ref04_Copy_L1_s F
    obtain ⟨mk1, rfl, F⟩ := F
    generalize hrec1 : ref04_Copy_L1 a0 mk1 = rec1 at F
    unfold ref04_Copy_B1 at F
    refine CW.seq fun K6 hK6 => ?_
    refine CW.seq fun K7 hK7 => ?_
    refine CW.region ?_
    refine LW.pure rfl rfl (RV.move rfl) ?_
    refine LW.pure rfl rfl (RV.fieldAddr Tf24_0 rfl) ?_
    refine LW.pure rfl rfl (RV.load1 Tk22 rfl ((H.blk 1 rfl).cells.off 0) rfl) ?_
    refine LW.pure rfl rfl (RV.len Ts22 rfl) ?_
    refine LW.pure rfl rfl (RV.lss rfl rfl) ?_
    refine LW.nil (hK7 _ _ ?_)
    by_cases hp1 : t4_1 < ((a0.worth.length : Int))
    ·
      replace F := ite_y hp1 F
      have hq1 := dec_t hp1
      refine CW.condT rfl hq1 ?_
      refine CW.skip (hK6 _ _ ?_)
      refine CW.seq fun K8 hK8 => ?_
      refine CW.block ?_
      obtain ⟨x1, hbx1, hx1, F⟩ := ix_some F
      obtain ⟨hg1, F⟩ := gd_some F
      obtain ⟨hg2, F⟩ := gd_some F
      have H0 := H
      have hz : wl2.heap.size ≤ wl2.heap.size := Nat.le_refl _
      refine CW.draw [8, 10, 12] (XB wl2 [.tab Am2 cm2 25 hsm2 3 1 (encM encN m2), .blk b1 24 [.slice A_a0_worth a0.worth.length c_a0_worth], .blk b2 24 [.slice none 0 0], .blk b3 24 [.slice Am2 m2.length cm2]] [0, 3]) (.cons 0 2 (.cons 3 2 (.cons 4 2 (.cons 5 2 (.cons 6 2 (.cons 7 2 (.alt 1 (.cons 2 0 (.cons 8 0 (.cons 9 0 (.cons 10 0 (.cons 11 2 (.cons 12 0 .nil)))))) (.cons 2 0 (.alt 1 (.cons 8 0 (.cons 9 0 (.cons 10 0 (.cons 11 2 (.cons 12 0 .nil))))) (.cons 8 0 (.alt 1 (.cons 9 0 (.cons 10 0 (.cons 11 2 (.cons 12 0 .nil)))) (.cons 9 0 (.cons 1 0 (.cons 10 0 (.cons 11 2 (.cons 12 0 .nil)))))))))))))))) mixed (by kernel_rfl) fun w5 E1 => ?_
      replace H := H.grow E1
      replace R0 := H.ext
      replace hz := Nat.le_trans hz (Ext.size E1)
      refine DW.thru rfl rfl rfl (fun _ EQ => RV.fieldAddr Tf24_0 rfl) ?_
      refine DW.thru rfl rfl rfl (fun _ EQ => RV.fieldAddr Tf24_0 rfl) ?_
      refine DW.thru rfl rfl rfl (fun _ EQ => RV.load1 Tk22 rfl ((H.thruB 1 rfl EQ (H0.notX [0, 3] 1 rfl (by decide))).cells.off 0) rfl) ?_
      refine DW.thru rfl rfl rfl (fun _ EQ => RV.move rfl) ?_
      obtain ⟨A1, c1, hC1, hS1⟩ := h_a0_worth.at_ hx1
      refine DW.thru rfl rfl rfl (fun _ EQ => RV.indexAddr Ts22 rfl rfl hbx1 (h_a0_worth.addr hbx1)) ?_
      refine DW.thru rfl rfl rfl (fun _ EQ => RV.load1 Tk25 rfl (H0.old EQ R0 hC1) rfl) ?_
      refine DW.alt ?_ ?_
      ·
        refine DW.sole rfl rfl rfl (OW.value (RV.load1 Tk22 rfl ((H.blk 3 rfl).cells.off 0) rfl) ⟨fun _ => Ext.refl _, ModX.refl _ _, ?_⟩)
        refine DW.sole rfl rfl rfl (OW.buildSlice (e := 3) (vs := []) (cs := []) rfl (fun _ => by kernel_rfl) fun b4 w6 N4 => ?_)
        refine ⟨fun _ => N4.ext, ModX.ext N4.ext, ?_⟩
        have G0_b4 : wl2.heap.size ≤ b4 := by rw [N4.at_]; exact hz
        replace H := H.made' (k := 1) (t := 3) (enc := encN) (l := ([] : List Int)) N4 N4.blk (fun _ => rfl) rfl (by first | decide | omega | (simp; done) | (simp; omega))
        replace R0 := H.ext
        replace hz := Nat.le_trans hz (Ext.size N4.ext)
        refine DW.sole rfl rfl rfl (OW.appendG (enc := encN) (l := ([] : List Int)) (xs := x1) Ts25 (look_slice rfl (by first | rfl | (simp; done) | (simp; omega))) rfl (H.own 0 rfl) (hS1.ext R0) (fun _ => rfl) rfl rfl hg1 (by decide) fun A2 c2 w7 O1 M1 D1 => ?_)
        have G0_A2 := Fresh.nextZ (Fresh.at_ G0_b4) D1 hz
        refine ⟨fun h => absurd h (by decide), M1.modx (XB.newA (Fresh.at_ G0_b4)), ?_⟩
        replace H : Hp w w7 [.own A2 c2 3 1 (List.map encN ((([] : List Int) ++ x1))), .tab Am2 cm2 25 hsm2 3 1 (encM encN m2), .blk b1 24 [.slice A_a0_worth a0.worth.length c_a0_worth], .blk b2 24 [.slice none 0 0], .blk b3 24 [.slice Am2 m2.length cm2]] := H.mod 0 rfl M1 O1 D1
        replace R0 := H.ext
        replace hz := Nat.le_trans hz M1.size
        refine DW.sole rfl rfl rfl (OW.buildSlice (e := 25) (vs := [.slice A2 (((([] : List Int) ++ x1)).length) c2]) (cs := [.slice A2 (((([] : List Int) ++ x1)).length) c2]) rfl (fun _ => by kernel_rfl) fun b5 w8 N5 => ?_)
        refine ⟨fun _ => N5.ext, ModX.ext N5.ext, ?_⟩
        have G0_b5 : wl2.heap.size ≤ b5 := by rw [N5.at_]; exact hz
        replace H := H.made' (k := 1) (t := 25) (enc := encH) (l := [((A2, c2), List.map encN ((([] : List Int) ++ x1)))]) N5 (by have q := N5.blk; simp only [List.flatMap_cons, List.flatMap_nil, encH, List.length_map, List.append_nil, List.cons_append, List.nil_append]; first | done | exact q) (fun _ => rfl) rfl (by first | decide | omega | (simp; done) | (simp; omega))
        replace R0 := H.ext
        replace hz := Nat.le_trans hz (Ext.size N5.ext)
        refine DW.sole rfl rfl rfl (OW.appendT (enc := encN) (m := m2) (l := (([] : List Int) ++ x1)) Ts22 rfl rfl (H.tab 2 rfl) (H.own 0 rfl).sl rfl hg2 (by decide) fun A3 c3 w9 O2 M2 D2 => ?_)
        refine ⟨fun h => absurd h (by decide), M2.modx (XB.tabO 0 (by decide) rfl), ?_⟩
        replace H : Hp w w9 [.own (some ⟨b5, 0, none⟩) (([((A2, c2), List.map encN ((([] : List Int) ++ x1)))]).length) 25 1 (List.map encH ([((A2, c2), List.map encN ((([] : List Int) ++ x1)))])), .tab A3 c3 25 ((hsm2 ++ [(A2, c2)])) 3 1 (encM encN ((m2 ++ [(([] : List Int) ++ x1)]))), .blk b1 24 [.slice A_a0_worth a0.worth.length c_a0_worth], .blk b2 24 [.slice none 0 0], .blk b3 24 [.slice Am2 m2.length cm2]] := H.tabPush 2 1 (by decide) rfl rfl M2 D2 O2
        replace R0 := H.ext
        replace hz := Nat.le_trans hz M2.size
        refine DW.thru rfl rfl rfl (fun _ EQ => RV.fieldAddr Tf24_0 rfl) ?_
        refine DW.sole rfl rfl rfl (OW.store Tk22 rfl rfl (H.blk 4 rfl) (off := 0) (vs := [.slice A3 (((m2 ++ [(([] : List Int) ++ x1)])).length) c3]) rfl rfl rfl rfl rfl fun w10 S2 => ?_)
        refine ⟨fun h => absurd h (by decide), S2.modx (XB.in_ 3 (by decide) rfl (List.mem_singleton.2 rfl)), ?_⟩
        replace H : Hp w w10 [.own (some ⟨b5, 0, none⟩) (([((A2, c2), List.map encN ((([] : List Int) ++ x1)))]).length) 25 1 (List.map encH ([((A2, c2), List.map encN ((([] : List Int) ++ x1)))])), .tab A3 c3 25 ((hsm2 ++ [(A2, c2)])) 3 1 (encM encN ((m2 ++ [(([] : List Int) ++ x1)]))), .blk b1 24 [.slice A_a0_worth a0.worth.length c_a0_worth], .blk b2 24 [.slice none 0 0], .blk b3 24 [.slice A3 (((m2 ++ [(([] : List Int) ++ x1)])).length) c3]] := H.stored 4 rfl S2
        replace R0 := H.ext
        replace hz := Nat.le_trans hz (Nat.le_of_eq S2.size.symm)
        refine DW.nil (hK8 _ _ ?_)
        obtain ⟨hg3, F⟩ := gd_some F
        refine CW.region ?_
        refine LW.pure rfl rfl (RV.move rfl) ?_
        refine LW.pure rfl rfl (RV.add rfl rfl hg3) ?_
        refine LW.pure rfl rfl (RV.assign rfl) ?_
        refine LW.nil ?_
        replace H := H.pick (L' := [.tab A3 c3 25 ((hsm2 ++ [(A2, c2)])) 3 1 (encM encN ((m2 ++ [(([] : List Int) ++ x1)]))), .blk b1 24 [.slice A_a0_worth a0.worth.length c_a0_worth], .blk b2 24 [.slice none 0 0], .blk b3 24 [.slice A3 (((m2 ++ [(([] : List Int) ++ x1)])).length) c3]]) [1, 2, 3, 4] (by decide) rfl
        replace R0 := H.ext
        subst hrec1
        refine ⟨mk1, Nat.lt_succ_self _, _, ?_, (t4_1 + 1), ((m2 ++ [(([] : List Int) ++ x1)])), ((hsm2 ++ [(A2, c2)])), A3, c3, F, rfl, H⟩
        exact ⟨rfl, rfl, rfl, rfl, trivial⟩
      ·
        refine DW.sole rfl rfl rfl (OW.buildSlice (e := 3) (vs := []) (cs := []) rfl (fun _ => by kernel_rfl) fun b6 w11 N6 => ?_)
        refine ⟨fun _ => N6.ext, ModX.ext N6.ext, ?_⟩
        have G0_b6 : wl2.heap.size ≤ b6 := by rw [N6.at_]; exact hz
        replace H := H.made' (k := 1) (t := 3) (enc := encN) (l := ([] : List Int)) N6 N6.blk (fun _ => rfl) rfl (by first | decide | omega | (simp; done) | (simp; omega))
        replace R0 := H.ext
        replace hz := Nat.le_trans hz (Ext.size N6.ext)
        refine DW.alt ?_ ?_
        ·
          refine DW.sole rfl rfl rfl (OW.value (RV.load1 Tk22 rfl ((H.blk 4 rfl).cells.off 0) rfl) ⟨fun _ => Ext.refl _, ModX.refl _ _, ?_⟩)
          refine DW.sole rfl rfl rfl (OW.appendG (enc := encN) (l := ([] : List Int)) (xs := x1) Ts25 (look_slice rfl (by first | rfl | (simp; done) | (simp; omega))) rfl (H.own 0 rfl) (hS1.ext R0) (fun _ => rfl) rfl rfl hg1 (by decide) fun A4 c4 w12 O3 M3 D3 => ?_)
          have G0_A4 := Fresh.nextZ (Fresh.at_ G0_b6) D3 hz
          refine ⟨fun h => absurd h (by decide), M3.modx (XB.newA (Fresh.at_ G0_b6)), ?_⟩
          replace H : Hp w w12 [.own A4 c4 3 1 (List.map encN ((([] : List Int) ++ x1))), .tab Am2 cm2 25 hsm2 3 1 (encM encN m2), .blk b1 24 [.slice A_a0_worth a0.worth.length c_a0_worth], .blk b2 24 [.slice none 0 0], .blk b3 24 [.slice Am2 m2.length cm2]] := H.mod 0 rfl M3 O3 D3
          replace R0 := H.ext
          replace hz := Nat.le_trans hz M3.size
          refine DW.sole rfl rfl rfl (OW.buildSlice (e := 25) (vs := [.slice A4 (((([] : List Int) ++ x1)).length) c4]) (cs := [.slice A4 (((([] : List Int) ++ x1)).length) c4]) rfl (fun _ => by kernel_rfl) fun b7 w13 N7 => ?_)
          refine ⟨fun _ => N7.ext, ModX.ext N7.ext, ?_⟩
          have G0_b7 : wl2.heap.size ≤ b7 := by rw [N7.at_]; exact hz
          replace H := H.made' (k := 1) (t := 25) (enc := encH) (l := [((A4, c4), List.map encN ((([] : List Int) ++ x1)))]) N7 (by have q := N7.blk; simp only [List.flatMap_cons, List.flatMap_nil, encH, List.length_map, List.append_nil, List.cons_append, List.nil_append]; first | done | exact q) (fun _ => rfl) rfl (by first | decide | omega | (simp; done) | (simp; omega))
          replace R0 := H.ext
          replace hz := Nat.le_trans hz (Ext.size N7.ext)
          refine DW.sole rfl rfl rfl (OW.appendT (enc := encN) (m := m2) (l := (([] : List Int) ++ x1)) Ts22 rfl rfl (H.tab 2 rfl) (H.own 0 rfl).sl rfl hg2 (by decide) fun A5 c5 w14 O4 M4 D4 => ?_)
          refine ⟨fun h => absurd h (by decide), M4.modx (XB.tabO 0 (by decide) rfl), ?_⟩
          replace H : Hp w w14 [.own (some ⟨b7, 0, none⟩) (([((A4, c4), List.map encN ((([] : List Int) ++ x1)))]).length) 25 1 (List.map encH ([((A4, c4), List.map encN ((([] : List Int) ++ x1)))])), .tab A5 c5 25 ((hsm2 ++ [(A4, c4)])) 3 1 (encM encN ((m2 ++ [(([] : List Int) ++ x1)]))), .blk b1 24 [.slice A_a0_worth a0.worth.length c_a0_worth], .blk b2 24 [.slice none 0 0], .blk b3 24 [.slice Am2 m2.length cm2]] := H.tabPush 2 1 (by decide) rfl rfl M4 D4 O4
          replace R0 := H.ext
          replace hz := Nat.le_trans hz M4.size
          refine DW.thru rfl rfl rfl (fun _ EQ => RV.fieldAddr Tf24_0 rfl) ?_
          refine DW.sole rfl rfl rfl (OW.store Tk22 rfl rfl (H.blk 4 rfl) (off := 0) (vs := [.slice A5 (((m2 ++ [(([] : List Int) ++ x1)])).length) c5]) rfl rfl rfl rfl rfl fun w15 S3 => ?_)
          refine ⟨fun h => absurd h (by decide), S3.modx (XB.in_ 3 (by decide) rfl (List.mem_singleton.2 rfl)), ?_⟩
          replace H : Hp w w15 [.own (some ⟨b7, 0, none⟩) (([((A4, c4), List.map encN ((([] : List Int) ++ x1)))]).length) 25 1 (List.map encH ([((A4, c4), List.map encN ((([] : List Int) ++ x1)))])), .tab A5 c5 25 ((hsm2 ++ [(A4, c4)])) 3 1 (encM encN ((m2 ++ [(([] : List Int) ++ x1)]))), .blk b1 24 [.slice A_a0_worth a0.worth.length c_a0_worth], .blk b2 24 [.slice none 0 0], .blk b3 24 [.slice A5 (((m2 ++ [(([] : List Int) ++ x1)])).length) c5]] := H.stored 4 rfl S3
          replace R0 := H.ext
          replace hz := Nat.le_trans hz (Nat.le_of_eq S3.size.symm)
          refine DW.nil (hK8 _ _ ?_)
          obtain ⟨hg4, F⟩ := gd_some F
          refine CW.region ?_
          refine LW.pure rfl rfl (RV.move rfl) ?_
          refine LW.pure rfl rfl (RV.add rfl rfl hg4) ?_
          refine LW.pure rfl rfl (RV.assign rfl) ?_
          refine LW.nil ?_
          replace H := H.pick (L' := [.tab A5 c5 25 ((hsm2 ++ [(A4, c4)])) 3 1 (encM encN ((m2 ++ [(([] : List Int) ++ x1)]))), .blk b1 24 [.slice A_a0_worth a0.worth.length c_a0_worth], .blk b2 24 [.slice none 0 0], .blk b3 24 [.slice A5 (((m2 ++ [(([] : List Int) ++ x1)])).length) c5]]) [1, 2, 3, 4] (by decide) rfl
          replace R0 := H.ext
          subst hrec1
          refine ⟨mk1, Nat.lt_succ_self _, _, ?_, (t4_1 + 1), ((m2 ++ [(([] : List Int) ++ x1)])), ((hsm2 ++ [(A4, c4)])), A5, c5, F, rfl, H⟩
          exact ⟨rfl, rfl, rfl, rfl, trivial⟩
        ·
          refine DW.sole rfl rfl rfl (OW.appendG (enc := encN) (l := ([] : List Int)) (xs := x1) Ts25 (look_slice rfl (by first | rfl | (simp; done) | (simp; omega))) rfl (H.own 0 rfl) (hS1.ext R0) (fun _ => rfl) rfl rfl hg1 (by decide) fun A6 c6 w16 O5 M5 D5 => ?_)
          have G0_A6 := Fresh.nextZ (Fresh.at_ G0_b6) D5 hz
          refine ⟨fun h => absurd h (by decide), M5.modx (XB.newA (Fresh.at_ G0_b6)), ?_⟩
          replace H : Hp w w16 [.own A6 c6 3 1 (List.map encN ((([] : List Int) ++ x1))), .tab Am2 cm2 25 hsm2 3 1 (encM encN m2), .blk b1 24 [.slice A_a0_worth a0.worth.length c_a0_worth], .blk b2 24 [.slice none 0 0], .blk b3 24 [.slice Am2 m2.length cm2]] := H.mod 0 rfl M5 O5 D5
          replace R0 := H.ext
          replace hz := Nat.le_trans hz M5.size
          refine DW.alt ?_ ?_
          ·
            refine DW.sole rfl rfl rfl (OW.value (RV.load1 Tk22 rfl ((H.blk 4 rfl).cells.off 0) rfl) ⟨fun _ => Ext.refl _, ModX.refl _ _, ?_⟩)
            refine DW.sole rfl rfl rfl (OW.buildSlice (e := 25) (vs := [.slice A6 (((([] : List Int) ++ x1)).length) c6]) (cs := [.slice A6 (((([] : List Int) ++ x1)).length) c6]) rfl (fun _ => by kernel_rfl) fun b8 w17 N8 => ?_)
            refine ⟨fun _ => N8.ext, ModX.ext N8.ext, ?_⟩
            have G0_b8 : wl2.heap.size ≤ b8 := by rw [N8.at_]; exact hz
            replace H := H.made' (k := 1) (t := 25) (enc := encH) (l := [((A6, c6), List.map encN ((([] : List Int) ++ x1)))]) N8 (by have q := N8.blk; simp only [List.flatMap_cons, List.flatMap_nil, encH, List.length_map, List.append_nil, List.cons_append, List.nil_append]; first | done | exact q) (fun _ => rfl) rfl (by first | decide | omega | (simp; done) | (simp; omega))
            replace R0 := H.ext
            replace hz := Nat.le_trans hz (Ext.size N8.ext)
            refine DW.sole rfl rfl rfl (OW.appendT (enc := encN) (m := m2) (l := (([] : List Int) ++ x1)) Ts22 rfl rfl (H.tab 2 rfl) (H.own 0 rfl).sl rfl hg2 (by decide) fun A7 c7 w18 O6 M6 D6 => ?_)
            refine ⟨fun h => absurd h (by decide), M6.modx (XB.tabO 0 (by decide) rfl), ?_⟩
            replace H : Hp w w18 [.own (some ⟨b8, 0, none⟩) (([((A6, c6), List.map encN ((([] : List Int) ++ x1)))]).length) 25 1 (List.map encH ([((A6, c6), List.map encN ((([] : List Int) ++ x1)))])), .tab A7 c7 25 ((hsm2 ++ [(A6, c6)])) 3 1 (encM encN ((m2 ++ [(([] : List Int) ++ x1)]))), .blk b1 24 [.slice A_a0_worth a0.worth.length c_a0_worth], .blk b2 24 [.slice none 0 0], .blk b3 24 [.slice Am2 m2.length cm2]] := H.tabPush 2 1 (by decide) rfl rfl M6 D6 O6
            replace R0 := H.ext
            replace hz := Nat.le_trans hz M6.size
            refine DW.thru rfl rfl rfl (fun _ EQ => RV.fieldAddr Tf24_0 rfl) ?_
            refine DW.sole rfl rfl rfl (OW.store Tk22 rfl rfl (H.blk 4 rfl) (off := 0) (vs := [.slice A7 (((m2 ++ [(([] : List Int) ++ x1)])).length) c7]) rfl rfl rfl rfl rfl fun w19 S4 => ?_)
            refine ⟨fun h => absurd h (by decide), S4.modx (XB.in_ 3 (by decide) rfl (List.mem_singleton.2 rfl)), ?_⟩
            replace H : Hp w w19 [.own (some ⟨b8, 0, none⟩) (([((A6, c6), List.map encN ((([] : List Int) ++ x1)))]).length) 25 1 (List.map encH ([((A6, c6), List.map encN ((([] : List Int) ++ x1)))])), .tab A7 c7 25 ((hsm2 ++ [(A6, c6)])) 3 1 (encM encN ((m2 ++ [(([] : List Int) ++ x1)]))), .blk b1 24 [.slice A_a0_worth a0.worth.length c_a0_worth], .blk b2 24 [.slice none 0 0], .blk b3 24 [.slice A7 (((m2 ++ [(([] : List Int) ++ x1)])).length) c7]] := H.stored 4 rfl S4
            replace R0 := H.ext
            replace hz := Nat.le_trans hz (Nat.le_of_eq S4.size.symm)
            refine DW.nil (hK8 _ _ ?_)
            obtain ⟨hg5, F⟩ := gd_some F
            refine CW.region ?_
            refine LW.pure rfl rfl (RV.move rfl) ?_
            refine LW.pure rfl rfl (RV.add rfl rfl hg5) ?_
            refine LW.pure rfl rfl (RV.assign rfl) ?_
            refine LW.nil ?_
            replace H := H.pick (L' := [.tab A7 c7 25 ((hsm2 ++ [(A6, c6)])) 3 1 (encM encN ((m2 ++ [(([] : List Int) ++ x1)]))), .blk b1 24 [.slice A_a0_worth a0.worth.length c_a0_worth], .blk b2 24 [.slice none 0 0], .blk b3 24 [.slice A7 (((m2 ++ [(([] : List Int) ++ x1)])).length) c7]]) [1, 2, 3, 4] (by decide) rfl
            replace R0 := H.ext
            subst hrec1
            refine ⟨mk1, Nat.lt_succ_self _, _, ?_, (t4_1 + 1), ((m2 ++ [(([] : List Int) ++ x1)])), ((hsm2 ++ [(A6, c6)])), A7, c7, F, rfl, H⟩
            exact ⟨rfl, rfl, rfl, rfl, trivial⟩
          ·
            refine DW.sole rfl rfl rfl (OW.buildSlice (e := 25) (vs := [.slice A6 (((([] : List Int) ++ x1)).length) c6]) (cs := [.slice A6 (((([] : List Int) ++ x1)).length) c6]) rfl (fun _ => by kernel_rfl) fun b9 w20 N9 => ?_)
            refine ⟨fun _ => N9.ext, ModX.ext N9.ext, ?_⟩
            have G0_b9 : wl2.heap.size ≤ b9 := by rw [N9.at_]; exact hz
            replace H := H.made' (k := 1) (t := 25) (enc := encH) (l := [((A6, c6), List.map encN ((([] : List Int) ++ x1)))]) N9 (by have q := N9.blk; simp only [List.flatMap_cons, List.flatMap_nil, encH, List.length_map, List.append_nil, List.cons_append, List.nil_append]; first | done | exact q) (fun _ => rfl) rfl (by first | decide | omega | (simp; done) | (simp; omega))
            replace R0 := H.ext
            replace hz := Nat.le_trans hz (Ext.size N9.ext)
            refine DW.sole rfl rfl rfl (OW.value (RV.load1 Tk22 rfl ((H.blk 5 rfl).cells.off 0) rfl) ⟨fun _ => Ext.refl _, ModX.refl _ _, ?_⟩)
            refine DW.sole rfl rfl rfl (OW.appendT (enc := encN) (m := m2) (l := (([] : List Int) ++ x1)) Ts22 rfl rfl (H.tab 2 rfl) (H.own 0 rfl).sl rfl hg2 (by decide) fun A8 c8 w21 O7 M7 D7 => ?_)
            refine ⟨fun h => absurd h (by decide), M7.modx (XB.tabO 0 (by decide) rfl), ?_⟩
            replace H : Hp w w21 [.own (some ⟨b9, 0, none⟩) (([((A6, c6), List.map encN ((([] : List Int) ++ x1)))]).length) 25 1 (List.map encH ([((A6, c6), List.map encN ((([] : List Int) ++ x1)))])), .tab A8 c8 25 ((hsm2 ++ [(A6, c6)])) 3 1 (encM encN ((m2 ++ [(([] : List Int) ++ x1)]))), .blk b1 24 [.slice A_a0_worth a0.worth.length c_a0_worth], .blk b2 24 [.slice none 0 0], .blk b3 24 [.slice Am2 m2.length cm2]] := H.tabPush 2 1 (by decide) rfl rfl M7 D7 O7
            replace R0 := H.ext
            replace hz := Nat.le_trans hz M7.size
            refine DW.thru rfl rfl rfl (fun _ EQ => RV.fieldAddr Tf24_0 rfl) ?_
            refine DW.sole rfl rfl rfl (OW.store Tk22 rfl rfl (H.blk 4 rfl) (off := 0) (vs := [.slice A8 (((m2 ++ [(([] : List Int) ++ x1)])).length) c8]) rfl rfl rfl rfl rfl fun w22 S5 => ?_)
            refine ⟨fun h => absurd h (by decide), S5.modx (XB.in_ 3 (by decide) rfl (List.mem_singleton.2 rfl)), ?_⟩
            replace H : Hp w w22 [.own (some ⟨b9, 0, none⟩) (([((A6, c6), List.map encN ((([] : List Int) ++ x1)))]).length) 25 1 (List.map encH ([((A6, c6), List.map encN ((([] : List Int) ++ x1)))])), .tab A8 c8 25 ((hsm2 ++ [(A6, c6)])) 3 1 (encM encN ((m2 ++ [(([] : List Int) ++ x1)]))), .blk b1 24 [.slice A_a0_worth a0.worth.length c_a0_worth], .blk b2 24 [.slice none 0 0], .blk b3 24 [.slice A8 (((m2 ++ [(([] : List Int) ++ x1)])).length) c8]] := H.stored 4 rfl S5
            replace R0 := H.ext
            replace hz := Nat.le_trans hz (Nat.le_of_eq S5.size.symm)
            refine DW.nil (hK8 _ _ ?_)
            obtain ⟨hg6, F⟩ := gd_some F
            refine CW.region ?_
            refine LW.pure rfl rfl (RV.move rfl) ?_
            refine LW.pure rfl rfl (RV.add rfl rfl hg6) ?_
            refine LW.pure rfl rfl (RV.assign rfl) ?_
            refine LW.nil ?_
            replace H := H.pick (L' := [.tab A8 c8 25 ((hsm2 ++ [(A6, c6)])) 3 1 (encM encN ((m2 ++ [(([] : List Int) ++ x1)]))), .blk b1 24 [.slice A_a0_worth a0.worth.length c_a0_worth], .blk b2 24 [.slice none 0 0], .blk b3 24 [.slice A8 (((m2 ++ [(([] : List Int) ++ x1)])).length) c8]]) [1, 2, 3, 4] (by decide) rfl
            replace R0 := H.ext
            subst hrec1
            refine ⟨mk1, Nat.lt_succ_self _, _, ?_, (t4_1 + 1), ((m2 ++ [(([] : List Int) ++ x1)])), ((hsm2 ++ [(A6, c6)])), A8, c8, F, rfl, H⟩
            exact ⟨rfl, rfl, rfl, rfl, trivial⟩
    ·
      replace F := ite_n hp1 F
      have hq1 := dec_f hp1
      refine CW.condF rfl hq1 ?_
      replace H := H.pick (L' := [.tab Am2 cm2 25 hsm2 3 1 (encM encN m2), .blk b2 24 [.slice none 0 0], .blk b3 24 [.slice Am2 m2.length cm2]]) [0, 2, 3] (by decide) rfl
      replace R0 := H.ext
      refine CW.exit (jK38 _ _ ⟨_, ?_, ⟨m2, hsm2, Am2, cm2, F, rfl, H⟩⟩)
      exact ⟨rfl, rfl, trivial⟩

end Go.D4

set_option linter.unusedVariables false
namespace Go.D4
open Go.Tb




def ref04_Toll_k1 (m1 : List (List Int)) : Option (Bog × Int) :=
  bnd (ref04_Validate ((⟨m1⟩ : Bog))) fun r1 =>
  if r1 = 0 then
    some ((⟨m1⟩ : Bog), (0 : Int))
  else
    some ((⟨[]⟩ : Bog), (3 : Int))
def ref04_Toll_k2 (t8_1 : Int) (rec1 : Int → (List (List Int)) → Option (Bog × Int)) (m2 : List (List Int)) : Option (Bog × Int) :=
  gd (InR (t8_1 + 1)) <|
  rec1 ((t8_1 + 1)) m2
def ref04_Toll_B1 (a1 : Int) (t8_1 : Int) (rec1 : Int → (List (List Int)) → Option (Bog × Int)) (rec2 : Int → (List (List Int)) → Option (Bog × Int)) (t9_1 : Int) (m3 : List (List Int)) : Option (Bog × Int) :=
  ix m3 t8_1 fun x1 =>
  if t9_1 < ((x1.length : Int)) then
    ix m3 t8_1 fun x2 =>
    ix x2 t9_1 fun x3 =>
    gd (InR (x3 - a1)) <|
    ix x2 t9_1 fun x4 =>
    gd (InR (t9_1 + 1)) <|
    rec2 ((t9_1 + 1)) (((m3.set (Int.toNat t8_1) (x2.set (Int.toNat t9_1) (x3 - a1)))))
  else
    ref04_Toll_k2 t8_1 rec1 m3
def ref04_Toll_L1 (a1 : Int) (t8_1 : Int) (rec1 : Int → (List (List Int)) → Option (Bog × Int)) : Nat → Int → (List (List Int)) → Option (Bog × Int)
  | 0, _, _ => none
  | n_ + 1, t9_1, m3 => ref04_Toll_B1 a1 t8_1 rec1 (ref04_Toll_L1 a1 t8_1 rec1 n_) t9_1 m3
theorem ref04_Toll_L1_s {a1 : Int} {t8_1 : Int} {rec1 : Int → (List (List Int)) → Option (Bog × Int)} {m_ : Nat} {t9_1 : Int} {m3 : List (List Int)} {res : Bog × Int} (h : ref04_Toll_L1 a1 t8_1 rec1 m_ t9_1 m3 = some res) : ∃ k, m_ = k + 1 ∧ ref04_Toll_B1 a1 t8_1 rec1 (ref04_Toll_L1 a1 t8_1 rec1 k) t9_1 m3 = some res := by
  cases m_ with
  | zero => cases h
  | succ k => exact ⟨k, rfl, h⟩
def ref04_Toll_B2 (a1 : Int) (rec1 : Int → (List (List Int)) → Option (Bog × Int)) (t8_1 : Int) (m4 : List (List Int)) : Option (Bog × Int) :=
  if t8_1 < ((m4.length : Int)) then
    ref04_Toll_L1 a1 t8_1 rec1 FU (((0 : Int))) m4
  else
    ref04_Toll_k1 m4
def ref04_Toll_L2 (a1 : Int) : Nat → Int → (List (List Int)) → Option (Bog × Int)
  | 0, _, _ => none
  | n_ + 1, t8_1, m4 => ref04_Toll_B2 a1 (ref04_Toll_L2 a1 n_) t8_1 m4
theorem ref04_Toll_L2_s {a1 : Int} {m_ : Nat} {t8_1 : Int} {m4 : List (List Int)} {res : Bog × Int} (h : ref04_Toll_L2 a1 m_ t8_1 m4 = some res) : ∃ k, m_ = k + 1 ∧ ref04_Toll_B2 a1 (ref04_Toll_L2 a1 k) t8_1 m4 = some res := by
  cases m_ with
  | zero => cases h
  | succ k => exact ⟨k, rfl, h⟩
def ref04_Toll_k3 (a0 : Bog) (a1 : Int) (t21_1 : Bool) : Option (Bog × Int) :=
  if t21_1 = true then
    some ((⟨[]⟩ : Bog), (1 : Int))
  else
    bnd (ref04_Copy a0) fun r2 =>
    ref04_Toll_L2 a1 FU (((0 : Int))) r2.worth
def ref04_Toll (a0 : Bog) (a1 : Int) : Option (Bog × Int) :=
  bnd (ref04_Validate a0) fun r3 =>
  if r3 = 0 then
    if (50 : Int) < a1 then
      ref04_Toll_k3 a0 a1 true
    else
      ref04_Toll_k3 a0 a1 ((decide (a1 < (-50))))
  else
    some ((⟨[]⟩ : Bog), r3)
def ref04_Same_k1 : Option Bool :=
  some true
def ref04_Same_B1 (a0 : Bog) (a1 : Bog) (rec1 : Int → Option Bool) (t5_1 : Int) : Option Bool :=
  if t5_1 < ((a0.worth.length : Int)) then
    ix a0.worth t5_1 fun x1 =>
    ix a1.worth t5_1 fun x2 =>
    bnd (ref04_SameInts x1 x2) fun r1 =>
    if r1 = true then
      gd (InR (t5_1 + 1)) <|
      rec1 ((t5_1 + 1))
    else
      some false
  else
    ref04_Same_k1
def ref04_Same_L1 (a0 : Bog) (a1 : Bog) : Nat → Int → Option Bool
  | 0, _ => none
  | n_ + 1, t5_1 => ref04_Same_B1 a0 a1 (ref04_Same_L1 a0 a1 n_) t5_1
theorem ref04_Same_L1_s {a0 : Bog} {a1 : Bog} {m_ : Nat} {t5_1 : Int} {res : Bool} (h : ref04_Same_L1 a0 a1 m_ t5_1 = some res) : ∃ k, m_ = k + 1 ∧ ref04_Same_B1 a0 a1 (ref04_Same_L1 a0 a1 k) t5_1 = some res := by
  cases m_ with
  | zero => cases h
  | succ k => exact ⟨k, rfl, h⟩
def ref04_Same (a0 : Bog) (a1 : Bog) : Option Bool :=
  if ((a0.worth.length : Int)) = ((a1.worth.length : Int)) then
    ref04_Same_L1 a0 a1 FU (((0 : Int)))
  else
    some false
def cut_Deepest (a0 : Bog) : Option ((List Int) × Int × Int) :=
  bnd (cut_Validate a0) fun r1 =>
  if r1 = 0 then
    bnd (cut_best a0 cut_greater) fun r2 =>
    some (r2.1, r2.2, (0 : Int))
  else
    some (([] : List Int), (0 : Int), r1)
def ref04_LiesIn_k1 (a0 : List Int) (a1 : List Int) : Option Bool :=
  some (decide (((a0.length : Int)) = ((a1.length : Int))))
def ref04_LiesIn_k2 (a0 : List Int) (a1 : List Int) (t5_1 : Int) (rec1 : Int → Option Bool) (t15_1 : Bool) : Option Bool :=
  if t15_1 = true then
    ix a0 t5_1 fun x1 =>
    ix a1 t5_1 fun x2 =>
    if x2 < x1 then
      some false
    else
      gd (InR (t5_1 + 1)) <|
      rec1 ((t5_1 + 1))
  else
    ref04_LiesIn_k1 a0 a1
def ref04_LiesIn_B1 (a0 : List Int) (a1 : List Int) (rec1 : Int → Option Bool) (t5_1 : Int) : Option Bool :=
  if t5_1 < ((a0.length : Int)) then
    ref04_LiesIn_k2 a0 a1 t5_1 rec1 ((decide (t5_1 < ((a1.length : Int)))))
  else
    ref04_LiesIn_k2 a0 a1 t5_1 rec1 false
def ref04_LiesIn_L1 (a0 : List Int) (a1 : List Int) : Nat → Int → Option Bool
  | 0, _ => none
  | n_ + 1, t5_1 => ref04_LiesIn_B1 a0 a1 (ref04_LiesIn_L1 a0 a1 n_) t5_1
theorem ref04_LiesIn_L1_s {a0 : List Int} {a1 : List Int} {m_ : Nat} {t5_1 : Int} {res : Bool} (h : ref04_LiesIn_L1 a0 a1 m_ t5_1 = some res) : ∃ k, m_ = k + 1 ∧ ref04_LiesIn_B1 a0 a1 (ref04_LiesIn_L1 a0 a1 k) t5_1 = some res := by
  cases m_ with
  | zero => cases h
  | succ k => exact ⟨k, rfl, h⟩
def ref04_LiesIn (a0 : List Int) (a1 : List Int) : Option Bool :=
  ref04_LiesIn_L1 a0 a1 FU (((0 : Int)))
def law04_CutTolls_k1 (a0 : Bog) (r1 : Bog × Int) (t50_1 : Bool) : Option Bool :=
  if t50_1 = true then
    bnd (law04_sane) fun r2 =>
    some r2
  else
    bnd (cut_Best r1.1) fun r3 =>
    bnd (cut_Best a0) fun r4 =>
    bnd (cut_Deepest r1.1) fun r5 =>
    bnd (cut_Deepest a0) fun r6 =>
    if r3.2.2 = 0 then
      if r4.2.2 = 0 then
        if r5.2.2 = 0 then
          if r6.2.2 = 0 then
            if r3.2.1 ≤ r4.2.1 then
              bnd (ref04_LiesIn r3.1 r4.1) fun r7 =>
              if r7 = true then
                bnd (ref04_LiesIn r5.1 r6.1) fun r8 =>
                if r8 = true then
                  bnd (law04_sane) fun r9 =>
                  some r9
                else
                  some false
              else
                some false
            else
              some false
          else
            some false
        else
          some false
      else
        some false
    else
      some false
def law04_CutTolls_k2 (a0 : Bog) (a1 : Int) (r1 : Bog × Int) (t44_1 : Bool) : Option Bool :=
  if t44_1 = true then
    some false
  else
    if r1.2 = 0 then
      law04_CutTolls_k1 a0 r1 ((decide (a1 < 0)))
    else
      law04_CutTolls_k1 a0 r1 true
def law04_CutTolls (a0 : Bog) (a1 : Int) : Option Bool :=
  bnd (law04_Long a0 (([] : List (List Int)))) fun r10 =>
  if r10 = true then
    bnd (law04_sane) fun r11 =>
    some r11
  else
    bnd (cut_Toll a0 a1) fun r1 =>
    bnd (ref04_Toll a0 a1) fun r12 =>
    bnd (ref04_Same r1.1 r12.1) fun r13 =>
    if r13 = true then
      law04_CutTolls_k2 a0 a1 r1 ((!(decide (r1.2 = r12.2))))
    else
      law04_CutTolls_k2 a0 a1 r1 true
end Go.D4

set_option linter.unusedVariables false
set_option linter.unusedSimpArgs false
namespace Go.D4
open Go.Tb Go.Proofs Go.RowKit

theorem Tc30 : callable Try.prog 30 = true := by kernel_rfl
theorem Tc32 : callable Try.prog 32 = true := by kernel_rfl
theorem Tc43 : callable Try.prog 43 = true := by kernel_rfl
theorem Tc46 : callable Try.prog 46 = true := by kernel_rfl
theorem Tc47 : callable Try.prog 47 = true := by kernel_rfl
theorem Tc48 : callable Try.prog 48 = true := by kernel_rfl

set_option maxRecDepth 20000 in
set_option maxHeartbeats 1000000 in
theorem ref04_Toll_ok {a0 : Bog} {a1 : Int} {A_a0_worth : Option Addr} {c_a0_worth : Nat} {w : World} {res : Bog × Int} (h_a0_worth : Sl2 w A_a0_worth c_a0_worth 1 encN a0.worth) (F : ref04_Toll a0 a1 = some res) : Calls Try.prog 48 #[.agg #[.slice A_a0_worth a0.worth.length c_a0_worth], .int .i64 a1] w (fun e w' => ∃ (A0_worth : Option Addr) (c0_worth : Nat) (hs0_worth : List (Option Addr × Nat)), e = .returned (.tuple #[.agg #[.slice A0_worth res.1.worth.length c0_worth], .int .i64 res.2]) ∧ Hp w w' [.tab A0_worth c0_worth 25 hs0_worth 3 1 (encM encN res.1.worth)]) := by
  refine calls_of_cw (args := [.agg #[.slice A_a0_worth a0.worth.length c_a0_worth], .int .i64 a1]) Try.func48 rfl rfl rfl rfl ?_
  have H := Hp.start w
  have R0 := H.ext
  unfold ref04_Toll at F
  refine CW.seq fun K1 hK1 => ?_
  refine CW.region ?_
  refine LW.go rfl rfl (OW.box rfl fun b1 w1 N1 => ?_)
  replace H := H.new N1 N1.blk
  replace R0 := H.ext
  refine LW.go rfl rfl (OW.alloc Tz24 fun b2 w2 N2 => ?_)
  replace H := H.new N2 N2.blk
  replace R0 := H.ext
  refine LW.pure rfl rfl (RV.assign rfl) ?_
  refine LW.nil (hK1 _ _ ?_)
  refine CW.seq fun K2 hK2 => ?_
  obtain ⟨r3, hr3, F⟩ := bnd_some F
  refine CW.region ?_
  refine LW.pure rfl rfl (RV.loadA [.slice A_a0_worth a0.worth.length c_a0_worth] Tk24 rfl (H.blk 1 rfl).cells rfl rfl) ?_
  refine LW.go rfl rfl (OW.call Tc26 rfl (ref04_Validate_ok (a0 := a0) (h_a0_worth.ext R0) hr3) ?_)
  rintro _ w3 ⟨rfl, E1⟩
  refine ⟨_, rfl, ?_⟩
  replace H := H.grow E1
  replace R0 := H.ext
  refine LW.pure rfl rfl (RV.assign rfl) ?_
  refine LW.nil (hK2 _ _ ?_)
  refine CW.seq fun K3 hK3 => ?_
  refine CW.seq fun K4 hK4 => ?_
  refine CW.region ?_
  refine LW.pure rfl rfl (RV.move rfl) ?_
  refine LW.pure rfl rfl (RV.nei rfl rfl) ?_
  refine LW.nil (hK4 _ _ ?_)
  by_cases hp1 : r3 = 0
  ·
    replace F := ite_y hp1 F
    have hq1 := dec_t hp1
    refine CW.condF rfl (not_f hq1) ?_
    refine CW.skip (hK3 _ _ ?_)
    refine CW.seq fun K5 hK5 => ?_
    refine CW.seqJ (fun ρ wl1 => (∃ (t21_1 : Bool), ref04_Toll_k3 a0 a1 t21_1 = some res ∧ ρ = [(1, .int .i64 a1), (2, .pointer (some (⟨b1, 0, none⟩))), (4, .pointer (some (⟨b2, 0, none⟩))), (5, .int .i64 0), (21, .bool t21_1)] ∧ Hp w wl1 [.blk b1 24 [.slice A_a0_worth a0.worth.length c_a0_worth], .blk b2 24 [.slice none 0 0]])) ?_ ?_
    ·
      rintro _ wl1 ⟨t21_1, F, rfl, H⟩
      have R0 := H.ext
      unfold ref04_Toll_k3 at F
      by_cases hp2 : t21_1 = true
      ·
        replace F := ite_y hp2 F
        have hq2 : t21_1 = true := hp2
        refine CW.condT rfl hq2 ?_
        refine CW.seq fun K6 hK6 => ?_
        refine CW.region ?_
        refine LW.pure rfl rfl (RV.build (vs := []) (cs := [.slice none 0 0]) rfl (fun _ => by kernel_rfl)) ?_
        refine LW.go rfl rfl (OW.store Tk24 rfl rfl (H.blk 1 rfl) (off := 0) (vs := [.slice none 0 0]) rfl rfl rfl rfl rfl fun w4 S1 => ?_)
        replace H : Hp w w4 [.blk b1 24 [.slice A_a0_worth a0.worth.length c_a0_worth], .blk b2 24 [.slice none 0 0]] := H.stored 1 rfl S1
        replace R0 := H.ext
        refine LW.pure rfl rfl (RV.assign rfl) ?_
        refine LW.nil (hK6 _ _ ?_)
        refine CW.ret ?_
        obtain rfl := Option.some.inj F
        refine ⟨_, (ResOK.two ⟨_, rfl, run_loadVar_agg Tk24 (H.blk 1 rfl).cells (us := [.slice none 0 0]) rfl rfl⟩ rfl), ?_⟩
        replace H := H.nilTab encN 25 3 1
        replace R0 := H.ext
        replace H := H.pick (L' := [.tab none 0 25 ([]) 3 1 (encM encN (([] : List (List Int))))]) [0] (by decide) rfl
        replace R0 := H.ext
        exact ⟨none, 0, ([]), (by first | rfl | (simp; done) | (simp; omega)), H⟩
      ·
        replace F := ite_n hp2 F
        have hq2 : t21_1 = false := raw_f hp2
        refine CW.condF rfl hq2 ?_
        refine CW.skip (hK5 _ _ ?_)
        refine CW.seq fun K7 hK7 => ?_
        obtain ⟨r2, hr2, F⟩ := bnd_some F
        refine CW.region ?_
        refine LW.pure rfl rfl (RV.loadA [.slice A_a0_worth a0.worth.length c_a0_worth] Tk24 rfl (H.blk 0 rfl).cells rfl rfl) ?_
        refine LW.go rfl rfl (OW.call Tc43 rfl (ref04_Copy_ok (a0 := a0) (h_a0_worth.ext R0) hr2) ?_)
        rintro _ w5 ⟨A7_0_worth, c7_0_worth, hs7_0_worth, rfl, E2⟩
        refine ⟨_, rfl, ?_⟩
        replace H : Hp w w5 [.tab A7_0_worth c7_0_worth 25 hs7_0_worth 3 1 (encM encN r2.worth), .blk b1 24 [.slice A_a0_worth a0.worth.length c_a0_worth], .blk b2 24 [.slice none 0 0]] := H.append E2
        replace R0 := H.ext
        refine LW.go rfl rfl (OW.alloc Tz24 fun b3 w6 N3 => ?_)
        replace H := H.new N3 N3.blk
        replace R0 := H.ext
        refine LW.go rfl rfl (OW.store Tk24 rfl rfl (H.blk 0 rfl) (off := 0) (vs := [.slice A7_0_worth r2.worth.length c7_0_worth]) rfl rfl rfl rfl rfl fun w7 S2 => ?_)
        replace H : Hp w w7 [.blk b3 24 [.slice A7_0_worth r2.worth.length c7_0_worth], .tab A7_0_worth c7_0_worth 25 hs7_0_worth 3 1 (encM encN r2.worth), .blk b1 24 [.slice A_a0_worth a0.worth.length c_a0_worth], .blk b2 24 [.slice none 0 0]] := H.stored 0 rfl S2
        replace R0 := H.ext
        refine LW.nil (hK7 _ _ ?_)
        refine CW.seqJ (fun ρ wl2 => (∃ (m1 : List (List Int)), ref04_Toll_k1 m1 = some res ∧ ρ = [(4, .pointer (some (⟨b2, 0, none⟩))), (5, .int .i64 0), (7, .pointer (some (⟨b3, 0, none⟩)))] ∧ Hp w wl2 [.tab A7_0_worth c7_0_worth 25 hs7_0_worth 3 1 (encM encN m1), .blk b2 24 [.slice none 0 0], .blk b3 24 [.slice A7_0_worth m1.length c7_0_worth]])) ?_ ?_
        ·
          rintro _ wl2 ⟨m1, F, rfl, H⟩
          have R0 := H.ext
          unfold ref04_Toll_k1 at F
          refine CW.seq fun K8 hK8 => ?_
          refine CW.seq fun K9 hK9 => ?_
          obtain ⟨r1, hr1, F⟩ := bnd_some F
          refine CW.region ?_
          refine LW.pure rfl rfl (RV.loadA [.slice A7_0_worth m1.length c7_0_worth] Tk24 rfl (H.blk 2 rfl).cells rfl rfl) ?_
          refine LW.go rfl rfl (OW.call Tc26 rfl (ref04_Validate_ok (a0 := (⟨m1⟩ : Bog)) (H.tab 0 rfl).sl2 hr1) ?_)
          rintro _ w8 ⟨rfl, E3⟩
          refine ⟨_, rfl, ?_⟩
          replace H := H.grow E3
          replace R0 := H.ext
          refine LW.pure rfl rfl (RV.nei rfl rfl) ?_
          refine LW.nil (hK9 _ _ ?_)
          by_cases hp3 : r1 = 0
          ·
            replace F := ite_y hp3 F
            have hq3 := dec_t hp3
            refine CW.condF rfl (not_f hq3) ?_
            refine CW.skip (hK8 _ _ ?_)
            refine CW.seq fun K10 hK10 => ?_
            refine CW.region ?_
            refine LW.pure rfl rfl (RV.loadA [.slice A7_0_worth m1.length c7_0_worth] Tk24 rfl (H.blk 2 rfl).cells rfl rfl) ?_
            refine LW.go rfl rfl (OW.store Tk24 rfl rfl (H.blk 1 rfl) (off := 0) (vs := [.slice A7_0_worth m1.length c7_0_worth]) rfl rfl rfl rfl rfl fun w9 S3 => ?_)
            replace H : Hp w w9 [.tab A7_0_worth c7_0_worth 25 hs7_0_worth 3 1 (encM encN m1), .blk b2 24 [.slice A7_0_worth m1.length c7_0_worth], .blk b3 24 [.slice A7_0_worth m1.length c7_0_worth]] := H.stored 1 rfl S3
            replace R0 := H.ext
            refine LW.pure rfl rfl (RV.assign rfl) ?_
            refine LW.nil (hK10 _ _ ?_)
            refine CW.ret ?_
            obtain rfl := Option.some.inj F
            refine ⟨_, (ResOK.two ⟨_, rfl, run_loadVar_agg Tk24 (H.blk 1 rfl).cells (us := [.slice A7_0_worth m1.length c7_0_worth]) rfl rfl⟩ rfl), ?_⟩
            replace H := H.pick (L' := [.tab A7_0_worth c7_0_worth 25 hs7_0_worth 3 1 (encM encN m1)]) [0] (by decide) rfl
            replace R0 := H.ext
            exact ⟨A7_0_worth, c7_0_worth, hs7_0_worth, (by first | rfl | (simp; done) | (simp; omega)), H⟩
          ·
            replace F := ite_n hp3 F
            have hq3 := dec_f hp3
            refine CW.condT rfl (not_t hq3) ?_
            refine CW.seq fun K11 hK11 => ?_
            refine CW.region ?_
            refine LW.pure rfl rfl (RV.build (vs := []) (cs := [.slice none 0 0]) rfl (fun _ => by kernel_rfl)) ?_
            refine LW.go rfl rfl (OW.store Tk24 rfl rfl (H.blk 1 rfl) (off := 0) (vs := [.slice none 0 0]) rfl rfl rfl rfl rfl fun w10 S4 => ?_)
            replace H : Hp w w10 [.tab A7_0_worth c7_0_worth 25 hs7_0_worth 3 1 (encM encN m1), .blk b2 24 [.slice none 0 0], .blk b3 24 [.slice A7_0_worth m1.length c7_0_worth]] := H.stored 1 rfl S4
            replace R0 := H.ext
            refine LW.pure rfl rfl (RV.assign rfl) ?_
            refine LW.nil (hK11 _ _ ?_)
            refine CW.ret ?_
            obtain rfl := Option.some.inj F
            refine ⟨_, (ResOK.two ⟨_, rfl, run_loadVar_agg Tk24 (H.blk 1 rfl).cells (us := [.slice none 0 0]) rfl rfl⟩ rfl), ?_⟩
            replace H := H.nilTab encN 25 3 1
            replace R0 := H.ext
            replace H := H.pick (L' := [.tab none 0 25 ([]) 3 1 (encM encN (([] : List (List Int))))]) [0] (by decide) rfl
            replace R0 := H.ext
            exact ⟨none, 0, ([]), (by first | rfl | (simp; done) | (simp; omega)), H⟩
        ·
          intro K12 hK12 jK236
          refine CW.seq fun K13 hK13 => ?_
          refine CW.region ?_
          refine LW.pure rfl rfl (RV.assign rfl) ?_
          refine LW.nil (hK13 _ _ ?_)
          refine CW.block ?_
          replace H := H.pick (L' := [.tab A7_0_worth c7_0_worth 25 hs7_0_worth 3 1 (encM encN r2.worth), .blk b2 24 [.slice none 0 0], .blk b3 24 [.slice A7_0_worth r2.worth.length c7_0_worth]]) [1, 3, 0] (by decide) rfl
          replace R0 := H.ext
          refine CW.loop (fun meas ρ wl3 => ∃ (t8_1 : Int) (m4 : List (List Int)), ref04_Toll_L2 a1 meas t8_1 m4 = some res ∧ ρ = [(1, .int .i64 a1), (4, .pointer (some (⟨b2, 0, none⟩))), (5, .int .i64 0), (7, .pointer (some (⟨b3, 0, none⟩))), (8, .int .i64 t8_1)] ∧ Hp w wl3 [.tab A7_0_worth c7_0_worth 25 hs7_0_worth 3 1 (encM encN m4), .blk b2 24 [.slice none 0 0], .blk b3 24 [.slice A7_0_worth m4.length c7_0_worth]]) FU ⟨_, ?_, ((0 : Int)), r2.worth, F, rfl, H⟩ ?_
          · exact ⟨rfl, rfl, rfl, rfl, rfl, trivial⟩
          rintro mk1 _ wl3 ⟨t8_1, m4, F, rfl, H⟩
          have R0 := H.ext
          replace F := ref04_Toll_L2_s F
          obtain ⟨mk1, rfl, F⟩ := F
          generalize hrec1 : ref04_Toll_L2 a1 mk1 = rec1 at F
          unfold ref04_Toll_B2 at F
          refine CW.seq fun K14 hK14 => ?_
          refine CW.seq fun K15 hK15 => ?_
          refine CW.region ?_
          refine LW.pure rfl rfl (RV.move rfl) ?_
          refine LW.pure rfl rfl (RV.fieldAddr Tf24_0 rfl) ?_
          refine LW.pure rfl rfl (RV.load1 Tk22 rfl ((H.blk 2 rfl).cells.off 0) rfl) ?_
          refine LW.pure rfl rfl (RV.len Ts22 rfl) ?_
          refine LW.pure rfl rfl (RV.lss rfl rfl) ?_
          refine LW.nil (hK15 _ _ ?_)
          by_cases hp4 : t8_1 < ((m4.length : Int))
          ·
            replace F := ite_y hp4 F
            have hq4 := dec_t hp4
            refine CW.condT rfl hq4 ?_
            refine CW.skip (hK14 _ _ ?_)
            refine CW.seqJ (fun ρ wl4 => (∃ (m2 : List (List Int)), ref04_Toll_k2 t8_1 rec1 m2 = some res ∧ ρ = [(1, .int .i64 a1), (4, .pointer (some (⟨b2, 0, none⟩))), (5, .int .i64 0), (7, .pointer (some (⟨b3, 0, none⟩))), (8, .int .i64 t8_1)] ∧ Hp w wl4 [.tab A7_0_worth c7_0_worth 25 hs7_0_worth 3 1 (encM encN m2), .blk b2 24 [.slice none 0 0], .blk b3 24 [.slice A7_0_worth m2.length c7_0_worth]])) ?_ ?_
            ·
              rintro _ wl4 ⟨m2, F, rfl, H⟩
              have R0 := H.ext
              unfold ref04_Toll_k2 at F
              obtain ⟨hg1, F⟩ := gd_some F
              refine CW.region ?_
              refine LW.pure rfl rfl (RV.move rfl) ?_
              refine LW.pure rfl rfl (RV.add rfl rfl hg1) ?_
              refine LW.pure rfl rfl (RV.assign rfl) ?_
              refine LW.nil ?_
              subst hrec1
              refine ⟨mk1, Nat.lt_succ_self _, _, ?_, (t8_1 + 1), m2, F, rfl, H⟩
              exact ⟨rfl, rfl, rfl, rfl, rfl, trivial⟩
            ·
              intro K16 hK16 jK296
              refine CW.block ?_
              refine CW.seq fun K17 hK17 => ?_
              refine CW.region ?_
              refine LW.pure rfl rfl (RV.assign rfl) ?_
              refine LW.nil (hK17 _ _ ?_)
              refine CW.block ?_
              refine CW.loop (fun meas ρ wl5 => ∃ (t9_1 : Int) (m3 : List (List Int)), ref04_Toll_L1 a1 t8_1 rec1 meas t9_1 m3 = some res ∧ ρ = [(1, .int .i64 a1), (4, .pointer (some (⟨b2, 0, none⟩))), (5, .int .i64 0), (7, .pointer (some (⟨b3, 0, none⟩))), (8, .int .i64 t8_1), (9, .int .i64 t9_1)] ∧ Hp w wl5 [.tab A7_0_worth c7_0_worth 25 hs7_0_worth 3 1 (encM encN m3), .blk b2 24 [.slice none 0 0], .blk b3 24 [.slice A7_0_worth m3.length c7_0_worth]]) FU ⟨_, ?_, ((0 : Int)), m4, F, rfl, H⟩ ?_
              · exact ⟨rfl, rfl, rfl, rfl, rfl, rfl, trivial⟩
              rintro mk2 _ wl5 ⟨t9_1, m3, F, rfl, H⟩
              have R0 := H.ext
              replace F := ref04_Toll_L1_s F
              obtain ⟨mk2, rfl, F⟩ := F
              generalize hrec2 : ref04_Toll_L1 a1 t8_1 rec1 mk2 = rec2 at F
              unfold ref04_Toll_B1 at F
              refine CW.seq fun K18 hK18 => ?_
              refine CW.seq fun K19 hK19 => ?_
              obtain ⟨x1, hbx1, hx1, F⟩ := ix_some F
              refine CW.region ?_
              refine LW.pure rfl rfl (RV.move rfl) ?_
              refine LW.pure rfl rfl (RV.fieldAddr Tf24_0 rfl) ?_
              refine LW.pure rfl rfl (RV.load1 Tk22 rfl ((H.blk 2 rfl).cells.off 0) rfl) ?_
              refine LW.pure rfl rfl (RV.move rfl) ?_
              obtain ⟨B1, e1, hh1⟩ := (H.tab 0 rfl).hd hx1
              refine LW.pure rfl rfl (RV.indexAddr Ts22 rfl rfl hbx1 ((H.tab 0 rfl).addr_ hx1)) ?_
              refine LW.pure rfl rfl (RV.load1 Tk25 rfl ((H.tab 0 rfl).cell hx1 hh1) rfl) ?_
              refine LW.pure rfl rfl (RV.len Ts25 rfl) ?_
              refine LW.pure rfl rfl (RV.lss rfl rfl) ?_
              refine LW.nil (hK19 _ _ ?_)
              by_cases hp5 : t9_1 < ((x1.length : Int))
              ·
                replace F := ite_y hp5 F
                have hq5 := dec_t hp5
                refine CW.condT rfl hq5 ?_
                refine CW.skip (hK18 _ _ ?_)
                refine CW.seq fun K20 hK20 => ?_
                refine CW.block ?_
                obtain ⟨x2, hbx2, hx2, F⟩ := ix_some F
                obtain ⟨x3, hbx3, hx3, F⟩ := ix_some F
                obtain ⟨hg2, F⟩ := gd_some F
                obtain ⟨x4, hbx4, hx4, F⟩ := ix_some F
                refine CW.region ?_
                refine LW.pure rfl rfl (RV.fieldAddr Tf24_0 rfl) ?_
                refine LW.pure rfl rfl (RV.load1 Tk22 rfl ((H.blk 2 rfl).cells.off 0) rfl) ?_
                refine LW.pure rfl rfl (RV.move rfl) ?_
                obtain ⟨B2, e2, hh2⟩ := (H.tab 0 rfl).hd hx2
                refine LW.pure rfl rfl (RV.indexAddr Ts22 rfl rfl hbx2 ((H.tab 0 rfl).addr_ hx2)) ?_
                refine LW.pure rfl rfl (RV.load1 Tk25 rfl ((H.tab 0 rfl).cell hx2 hh2) rfl) ?_
                refine LW.pure rfl rfl (RV.move rfl) ?_
                refine LW.pure rfl rfl (RV.indexAddr Ts25 rfl rfl hbx3 (((H.tab 0 rfl).rowO hx2 hh2).sl.addr_ hx3)) ?_
                refine LW.pure rfl rfl (RV.load1 Tk3 rfl (((H.tab 0 rfl).rowO hx2 hh2).sl.at_ hx3) rfl) ?_
                refine LW.pure rfl rfl (RV.move rfl) ?_
                refine LW.pure rfl rfl (RV.sub rfl rfl hg2) ?_
                refine LW.pure rfl rfl (RV.indexAddr Ts25 rfl rfl hbx4 (((H.tab 0 rfl).rowO hx2 hh2).sl.addr_ hx4)) ?_
                refine LW.go rfl rfl (OW.storeO (enc := encN) (vs := [.int .i64 (x3 - a1)]) 0 (x3 - a1) Tk3 rfl rfl ((H.tab 0 rfl).rowO hx2 hh2) (fun _ => rfl) rfl hx4 rfl rfl (by decide) rfl rfl fun w11 M1 O1 => ?_)
                replace H : Hp w w11 [.tab A7_0_worth c7_0_worth 25 hs7_0_worth 3 1 (encM encN ((m3.set (Int.toNat t8_1) (x2.set (Int.toNat t9_1) (x3 - a1))))), .blk b2 24 [.slice none 0 0], .blk b3 24 [.slice A7_0_worth m3.length c7_0_worth]] := H.tabRow 0 rfl hh2 hx2 (by simp) M1 O1
                replace R0 := H.ext
                have hrw1 : ((m3.set (Int.toNat t8_1) (x2.set (Int.toNat t9_1) (x3 - a1))))[Int.toNat t8_1]? = some (x2.set (Int.toNat t9_1) (x3 - a1)) := List.getElem?_set_self (lt_of_at hx2)
                refine LW.nil (hK20 _ _ ?_)
                obtain ⟨hg3, F⟩ := gd_some F
                refine CW.region ?_
                refine LW.pure rfl rfl (RV.move rfl) ?_
                refine LW.pure rfl rfl (RV.add rfl rfl hg3) ?_
                refine LW.pure rfl rfl (RV.assign rfl) ?_
                refine LW.nil ?_
                replace H := H.cast (L' := [.tab A7_0_worth c7_0_worth 25 hs7_0_worth 3 1 (encM encN ((m3.set (Int.toNat t8_1) (x2.set (Int.toNat t9_1) (x3 - a1))))), .blk b2 24 [.slice none 0 0], .blk b3 24 [.slice A7_0_worth (((m3.set (Int.toNat t8_1) (x2.set (Int.toNat t9_1) (x3 - a1)))).length) c7_0_worth]]) (by first | rfl | (simp only [List.length_set]; done) | simp)
                subst hrec2
                refine ⟨mk2, Nat.lt_succ_self _, _, ?_, (t9_1 + 1), ((m3.set (Int.toNat t8_1) (x2.set (Int.toNat t9_1) (x3 - a1)))), F, rfl, H⟩
                exact ⟨rfl, rfl, rfl, rfl, rfl, rfl, trivial⟩
              ·
                replace F := ite_n hp5 F
                have hq5 := dec_f hp5
                refine CW.condF rfl hq5 ?_
                refine CW.exit (jK296 _ _ ⟨_, ?_, ⟨m3, F, rfl, H⟩⟩)
                exact ⟨rfl, rfl, rfl, rfl, rfl, trivial⟩
          ·
            replace F := ite_n hp4 F
            have hq4 := dec_f hp4
            refine CW.condF rfl hq4 ?_
            refine CW.exit (jK236 _ _ ⟨_, ?_, ⟨m4, F, rfl, H⟩⟩)
            exact ⟨rfl, rfl, rfl, trivial⟩
    ·
      intro K21 hK21 jK307
      by_cases hp6 : (50 : Int) < a1
      ·
        replace F := ite_y hp6 F
        have hq6 := dec_t hp6
        refine CW.region ?_
        refine LW.pure rfl rfl (RV.move rfl) ?_
        refine LW.pure rfl rfl (RV.gtr rfl rfl) ?_
        refine LW.pure rfl rfl (RV.move rfl) ?_
        refine LW.noB rfl rfl rfl rfl (ne_beq (v := true) hq6 rfl) ?_
        refine LW.noB rfl rfl rfl rfl (ne_beq (v := true) hq6 rfl) ?_
        refine LW.pure rfl rfl (RV.pickTB rfl hq6 rfl) ?_
        replace H := H.pick (L' := [.blk b1 24 [.slice A_a0_worth a0.worth.length c_a0_worth], .blk b2 24 [.slice none 0 0]]) [1, 0] (by decide) rfl
        replace R0 := H.ext
        refine LW.nil (jK307 _ _ ⟨_, ?_, ⟨true, F, rfl, H⟩⟩)
        exact ⟨rfl, rfl, rfl, rfl, rfl, trivial⟩
      ·
        replace F := ite_n hp6 F
        have hq6 := dec_f hp6
        refine CW.region ?_
        refine LW.pure rfl rfl (RV.move rfl) ?_
        refine LW.pure rfl rfl (RV.gtr rfl rfl) ?_
        refine LW.pure rfl rfl (RV.move rfl) ?_
        refine LW.pureYB rfl rfl rfl rfl hq6 (RV.move rfl) ?_
        refine LW.pureYB rfl rfl rfl rfl hq6 (RV.lss rfl rfl) ?_
        refine LW.pure rfl rfl (RV.pickFB rfl hq6 rfl) ?_
        replace H := H.pick (L' := [.blk b1 24 [.slice A_a0_worth a0.worth.length c_a0_worth], .blk b2 24 [.slice none 0 0]]) [1, 0] (by decide) rfl
        replace R0 := H.ext
        refine LW.nil (jK307 _ _ ⟨_, ?_, ⟨(decide (a1 < (-50))), F, rfl, H⟩⟩)
        exact ⟨rfl, rfl, rfl, rfl, rfl, trivial⟩
  ·
    replace F := ite_n hp1 F
    have hq1 := dec_f hp1
    refine CW.condT rfl (not_t hq1) ?_
    refine CW.seq fun K22 hK22 => ?_
    refine CW.region ?_
    refine LW.pure rfl rfl (RV.build (vs := []) (cs := [.slice none 0 0]) rfl (fun _ => by kernel_rfl)) ?_
    refine LW.pure rfl rfl (RV.move rfl) ?_
    refine LW.go rfl rfl (OW.store Tk24 rfl rfl (H.blk 0 rfl) (off := 0) (vs := [.slice none 0 0]) rfl rfl rfl rfl rfl fun w12 S5 => ?_)
    replace H : Hp w w12 [.blk b2 24 [.slice none 0 0], .blk b1 24 [.slice A_a0_worth a0.worth.length c_a0_worth]] := H.stored 0 rfl S5
    replace R0 := H.ext
    refine LW.pure rfl rfl (RV.assign rfl) ?_
    refine LW.nil (hK22 _ _ ?_)
    refine CW.ret ?_
    obtain rfl := Option.some.inj F
    refine ⟨_, (ResOK.two ⟨_, rfl, run_loadVar_agg Tk24 (H.blk 0 rfl).cells (us := [.slice none 0 0]) rfl rfl⟩ rfl), ?_⟩
    replace H := H.nilTab encN 25 3 1
    replace R0 := H.ext
    replace H := H.pick (L' := [.tab none 0 25 ([]) 3 1 (encM encN (([] : List (List Int))))]) [0] (by decide) rfl
    replace R0 := H.ext
    exact ⟨none, 0, ([]), (by first | rfl | (simp; done) | (simp; omega)), H⟩

set_option maxRecDepth 20000 in
set_option maxHeartbeats 1000000 in
theorem ref04_Same_ok {a0 : Bog} {a1 : Bog} {A_a0_worth : Option Addr} {c_a0_worth : Nat} {A_a1_worth : Option Addr} {c_a1_worth : Nat} {w : World} {res : Bool} (h_a0_worth : Sl2 w A_a0_worth c_a0_worth 1 encN a0.worth) (h_a1_worth : Sl2 w A_a1_worth c_a1_worth 1 encN a1.worth) (F : ref04_Same a0 a1 = some res) : Calls Try.prog 46 #[.agg #[.slice A_a0_worth a0.worth.length c_a0_worth], .agg #[.slice A_a1_worth a1.worth.length c_a1_worth]] w (Rt w (.bool res)) := by
  refine calls_of_cw (args := [.agg #[.slice A_a0_worth a0.worth.length c_a0_worth], .agg #[.slice A_a1_worth a1.worth.length c_a1_worth]]) Try.func46 rfl rfl rfl rfl ?_
  have H := Hp.start w
  have R0 := H.ext
  unfold ref04_Same at F
  refine CW.seq fun K1 hK1 => ?_
  refine CW.region ?_
  refine LW.go rfl rfl (OW.box rfl fun b1 w1 N1 => ?_)
  replace H := H.new N1 N1.blk
  replace R0 := H.ext
  refine LW.go rfl rfl (OW.box rfl fun b2 w2 N2 => ?_)
  replace H := H.new N2 N2.blk
  replace R0 := H.ext
  refine LW.pure rfl rfl (RV.assign rfl) ?_
  refine LW.nil (hK1 _ _ ?_)
  refine CW.seq fun K2 hK2 => ?_
  refine CW.seq fun K3 hK3 => ?_
  refine CW.region ?_
  refine LW.pure rfl rfl (RV.fieldAddr Tf24_0 rfl) ?_
  refine LW.pure rfl rfl (RV.load1 Tk22 rfl ((H.blk 1 rfl).cells.off 0) rfl) ?_
  refine LW.pure rfl rfl (RV.len Ts22 rfl) ?_
  refine LW.pure rfl rfl (RV.fieldAddr Tf24_0 rfl) ?_
  refine LW.pure rfl rfl (RV.load1 Tk22 rfl ((H.blk 0 rfl).cells.off 0) rfl) ?_
  refine LW.pure rfl rfl (RV.len Ts22 rfl) ?_
  refine LW.pure rfl rfl (RV.nei rfl rfl) ?_
  refine LW.nil (hK3 _ _ ?_)
  by_cases hp1 : ((a0.worth.length : Int)) = ((a1.worth.length : Int))
  ·
    replace F := ite_y hp1 F
    have hq1 := dec_t hp1
    refine CW.condF rfl (not_f hq1) ?_
    refine CW.skip (hK2 _ _ ?_)
    refine CW.seqJ (fun ρ wl1 => (ref04_Same_k1 = some res ∧ ρ = [(4, .bool false)] ∧ Hp w wl1 [])) ?_ ?_
    ·
      rintro _ wl1 ⟨F, rfl, H⟩
      have R0 := H.ext
      unfold ref04_Same_k1 at F
      refine CW.seq fun K4 hK4 => ?_
      refine CW.region ?_
      refine LW.pure rfl rfl (RV.assign rfl) ?_
      refine LW.nil (hK4 _ _ ?_)
      refine CW.ret ?_
      obtain rfl := Option.some.inj F
      refine ⟨_, (ResOK.one rfl), ?_⟩
      refine ⟨(by first | rfl | simp), R0⟩
    ·
      intro K5 hK5 jK59
      refine CW.seq fun K6 hK6 => ?_
      refine CW.region ?_
      refine LW.pure rfl rfl (RV.assign rfl) ?_
      refine LW.nil (hK6 _ _ ?_)
      refine CW.block ?_
      replace H := H.pick (L' := [.blk b1 24 [.slice A_a0_worth a0.worth.length c_a0_worth], .blk b2 24 [.slice A_a1_worth a1.worth.length c_a1_worth]]) [1, 0] (by decide) rfl
      replace R0 := H.ext
      refine CW.loop (fun meas ρ wl2 => ∃ (t5_1 : Int), ref04_Same_L1 a0 a1 meas t5_1 = some res ∧ ρ = [(2, .pointer (some (⟨b1, 0, none⟩))), (3, .pointer (some (⟨b2, 0, none⟩))), (4, .bool false), (5, .int .i64 t5_1)] ∧ Hp w wl2 [.blk b1 24 [.slice A_a0_worth a0.worth.length c_a0_worth], .blk b2 24 [.slice A_a1_worth a1.worth.length c_a1_worth]]) FU ⟨_, ?_, ((0 : Int)), F, rfl, H⟩ ?_
      · exact ⟨rfl, rfl, rfl, rfl, trivial⟩
      rintro mk1 _ wl2 ⟨t5_1, F, rfl, H⟩
      have R0 := H.ext
      replace F := ref04_Same_L1_s F
      obtain ⟨mk1, rfl, F⟩ := F
      generalize hrec1 : ref04_Same_L1 a0 a1 mk1 = rec1 at F
      unfold ref04_Same_B1 at F
      refine CW.seq fun K7 hK7 => ?_
      refine CW.seq fun K8 hK8 => ?_
      refine CW.region ?_
      refine LW.pure rfl rfl (RV.move rfl) ?_
      refine LW.pure rfl rfl (RV.fieldAddr Tf24_0 rfl) ?_
      refine LW.pure rfl rfl (RV.load1 Tk22 rfl ((H.blk 0 rfl).cells.off 0) rfl) ?_
      refine LW.pure rfl rfl (RV.len Ts22 rfl) ?_
      refine LW.pure rfl rfl (RV.lss rfl rfl) ?_
      refine LW.nil (hK8 _ _ ?_)
      by_cases hp2 : t5_1 < ((a0.worth.length : Int))
      ·
        replace F := ite_y hp2 F
        have hq2 := dec_t hp2
        refine CW.condT rfl hq2 ?_
        refine CW.skip (hK7 _ _ ?_)
        refine CW.seq fun K9 hK9 => ?_
        refine CW.block ?_
        refine CW.seq fun K10 hK10 => ?_
        obtain ⟨x1, hbx1, hx1, F⟩ := ix_some F
        obtain ⟨x2, hbx2, hx2, F⟩ := ix_some F
        obtain ⟨r1, hr1, F⟩ := bnd_some F
        refine CW.draw [] (fun _ => True) (.cons 0 1 (.cons 1 1 (.cons 2 1 (.cons 3 1 (.cons 4 1 (.cons 5 1 (.cons 6 1 (.cons 7 1 (.cons 8 1 (.cons 9 1 (.cons 10 0 (.cons 11 1 .nil)))))))))))) mixed (by kernel_rfl) fun w3 E1 => ?_
        replace H := H.grow E1
        replace R0 := H.ext
        refine DW.fix rfl rfl rfl (fun _ EQ => RV.fieldAddr Tf24_0 rfl) ?_
        refine DW.fix rfl rfl rfl (fun _ EQ => RV.load1 Tk22 rfl (((H.grow EQ).blk 0 rfl).cells.off 0) rfl) ?_
        refine DW.fix rfl rfl rfl (fun _ EQ => RV.move rfl) ?_
        obtain ⟨A1, c1, hC1, hS1⟩ := h_a0_worth.at_ hx1
        refine DW.fix rfl rfl rfl (fun _ EQ => RV.indexAddr Ts22 rfl rfl hbx1 (h_a0_worth.addr hbx1)) ?_
        refine DW.fix rfl rfl rfl (fun _ EQ => RV.load1 Tk25 rfl (hC1.ext (R0.trans EQ)) rfl) ?_
        refine DW.fix rfl rfl rfl (fun _ EQ => RV.fieldAddr Tf24_0 rfl) ?_
        refine DW.fix rfl rfl rfl (fun _ EQ => RV.load1 Tk22 rfl (((H.grow EQ).blk 1 rfl).cells.off 0) rfl) ?_
        refine DW.fix rfl rfl rfl (fun _ EQ => RV.move rfl) ?_
        obtain ⟨A2, c2, hC2, hS2⟩ := h_a1_worth.at_ hx2
        refine DW.fix rfl rfl rfl (fun _ EQ => RV.indexAddr Ts22 rfl rfl hbx2 (h_a1_worth.addr hbx2)) ?_
        refine DW.fix rfl rfl rfl (fun _ EQ => RV.load1 Tk25 rfl (hC2.ext (R0.trans EQ)) rfl) ?_
        refine DW.sole rfl rfl rfl (OW.call Tc21 rfl (ref04_SameInts_ok (a0 := x1) (a1 := x2) (hS1.ext R0) (hS2.ext R0) hr1) ?_)
        rintro _ w4 ⟨rfl, E2⟩
        refine ⟨_, rfl, fun _ => E2, ModX.ext E2, ?_⟩
        replace H := H.grow E2
        replace R0 := H.ext
        refine DW.fix rfl rfl rfl (fun _ EQ => RV.not rfl) ?_
        refine DW.nil (hK10 _ _ ?_)
        by_cases hp3 : r1 = true
        ·
          replace F := ite_y hp3 F
          have hq3 : r1 = true := hp3
          refine CW.condF rfl (not_f hq3) ?_
          refine CW.skip (hK9 _ _ ?_)
          obtain ⟨hg1, F⟩ := gd_some F
          refine CW.region ?_
          refine LW.pure rfl rfl (RV.move rfl) ?_
          refine LW.pure rfl rfl (RV.add rfl rfl hg1) ?_
          refine LW.pure rfl rfl (RV.assign rfl) ?_
          refine LW.nil ?_
          subst hrec1
          refine ⟨mk1, Nat.lt_succ_self _, _, ?_, (t5_1 + 1), F, rfl, H⟩
          exact ⟨rfl, rfl, rfl, rfl, trivial⟩
        ·
          replace F := ite_n hp3 F
          have hq3 : r1 = false := raw_f hp3
          refine CW.condT rfl (not_t hq3) ?_
          refine CW.seq fun K11 hK11 => ?_
          refine CW.region ?_
          refine LW.pure rfl rfl (RV.assign rfl) ?_
          refine LW.nil (hK11 _ _ ?_)
          refine CW.ret ?_
          obtain rfl := Option.some.inj F
          refine ⟨_, (ResOK.one rfl), ?_⟩
          refine ⟨(by first | rfl | simp), R0⟩
      ·
        replace F := ite_n hp2 F
        have hq2 := dec_f hp2
        refine CW.condF rfl hq2 ?_
        replace H := H.pick (L' := []) [] (by decide) rfl
        replace R0 := H.ext
        refine CW.exit (jK59 _ _ ⟨_, ?_, ⟨F, rfl, H⟩⟩)
        exact ⟨rfl, trivial⟩
  ·
    replace F := ite_n hp1 F
    have hq1 := dec_f hp1
    refine CW.condT rfl (not_t hq1) ?_
    refine CW.seq fun K12 hK12 => ?_
    refine CW.region ?_
    refine LW.pure rfl rfl (RV.assign rfl) ?_
    refine LW.nil (hK12 _ _ ?_)
    refine CW.ret ?_
    obtain rfl := Option.some.inj F
    refine ⟨_, (ResOK.one rfl), ?_⟩
    refine ⟨(by first | rfl | simp), R0⟩

set_option maxRecDepth 20000 in
set_option maxHeartbeats 1000000 in
theorem cut_Deepest_ok {a0 : Bog} {A_a0_worth : Option Addr} {c_a0_worth : Nat} {w : World} {res : (List Int) × Int × Int} (h_a0_worth : Sl2 w A_a0_worth c_a0_worth 1 encN a0.worth) (F : cut_Deepest a0 = some res) : Calls Try.prog 30 #[.agg #[.slice A_a0_worth a0.worth.length c_a0_worth]] w (fun e w' => ∃ (A0 : Option Addr) (c0 : Nat), e = .returned (.tuple #[.slice A0 res.1.length c0, .int .i64 res.2.1, .int .i64 res.2.2]) ∧ Hp w w' [.own A0 c0 3 1 (List.map encN res.1)]) := by
  refine calls_of_cw (args := [.agg #[.slice A_a0_worth a0.worth.length c_a0_worth]]) Try.func30 rfl rfl rfl rfl ?_
  have H := Hp.start w
  have R0 := H.ext
  unfold cut_Deepest at F
  refine CW.seq fun K1 hK1 => ?_
  refine CW.region ?_
  refine LW.go rfl rfl (OW.box rfl fun b1 w1 N1 => ?_)
  replace H := H.new N1 N1.blk
  replace R0 := H.ext
  refine LW.pure rfl rfl (RV.assign rfl) ?_
  refine LW.pure rfl rfl (RV.assign rfl) ?_
  refine LW.pure rfl rfl (RV.assign rfl) ?_
  refine LW.nil (hK1 _ _ ?_)
  refine CW.seq fun K2 hK2 => ?_
  refine CW.seq fun K3 hK3 => ?_
  obtain ⟨r1, hr1, F⟩ := bnd_some F
  refine CW.region ?_
  refine LW.pure rfl rfl (RV.loadA [.slice A_a0_worth a0.worth.length c_a0_worth] Tk24 rfl (H.blk 0 rfl).cells rfl rfl) ?_
  refine LW.go rfl rfl (OW.call Tc25 rfl (cut_Validate_ok (a0 := a0) (h_a0_worth.ext R0) hr1) ?_)
  rintro _ w2 ⟨rfl, E1⟩
  refine ⟨_, rfl, ?_⟩
  replace H := H.grow E1
  replace R0 := H.ext
  refine LW.pure rfl rfl (RV.assign rfl) ?_
  refine LW.nil (hK3 _ _ ?_)
  refine CW.seq fun K4 hK4 => ?_
  refine CW.region ?_
  refine LW.pure rfl rfl (RV.move rfl) ?_
  refine LW.pure rfl rfl (RV.nei rfl rfl) ?_
  refine LW.nil (hK4 _ _ ?_)
  by_cases hp1 : r1 = 0
  ·
    replace F := ite_y hp1 F
    have hq1 := dec_t hp1
    refine CW.condF rfl (not_f hq1) ?_
    refine CW.skip (hK2 _ _ ?_)
    refine CW.seq fun K5 hK5 => ?_
    obtain ⟨r2, hr2, F⟩ := bnd_some F
    refine CW.region ?_
    refine LW.pure rfl rfl (RV.loadA [.slice A_a0_worth a0.worth.length c_a0_worth] Tk24 rfl (H.blk 0 rfl).cells rfl rfl) ?_
    refine LW.go rfl rfl (OW.call Tc73 rfl (cut_best_ok (a0 := a0) (a1 := cut_greater) (h_a0_worth.ext R0) (fun x0 x1 r hF w3 hE => CallsV.of Tc77 (cut_greater_ok (a0 := x0) (a1 := x1) hF)) hr2) ?_)
    rintro _ w4 ⟨A6_0, c6_0, rfl, E2⟩
    refine ⟨_, rfl, ?_⟩
    replace H : Hp w w4 [.own A6_0 c6_0 3 1 (List.map encN r2.1), .blk b1 24 [.slice A_a0_worth a0.worth.length c_a0_worth]] := H.append E2
    replace R0 := H.ext
    refine LW.pure rfl rfl (RV.move rfl) ?_
    refine LW.pure rfl rfl (RV.extract rfl rfl) ?_
    refine LW.pure rfl rfl (RV.extract rfl rfl) ?_
    refine LW.pure rfl rfl (RV.assign rfl) ?_
    refine LW.pure rfl rfl (RV.assign rfl) ?_
    refine LW.nil (hK5 _ _ ?_)
    refine CW.seq fun K6 hK6 => ?_
    refine CW.region ?_
    refine LW.pure rfl rfl (RV.move rfl) ?_
    refine LW.pure rfl rfl (RV.move rfl) ?_
    refine LW.pure rfl rfl (RV.assign rfl) ?_
    refine LW.pure rfl rfl (RV.assign rfl) ?_
    refine LW.pure rfl rfl (RV.assign rfl) ?_
    refine LW.nil (hK6 _ _ ?_)
    refine CW.ret ?_
    obtain rfl := Option.some.inj F
    refine ⟨_, (ResOK.three rfl rfl rfl), ?_⟩
    replace H := H.pick (L' := [.own A6_0 c6_0 3 1 (List.map encN r2.1)]) [0] (by decide) rfl
    replace R0 := H.ext
    exact ⟨A6_0, c6_0, (by first | rfl | (simp; done) | (simp; omega)), H⟩
  ·
    replace F := ite_n hp1 F
    have hq1 := dec_f hp1
    refine CW.condT rfl (not_t hq1) ?_
    refine CW.seq fun K7 hK7 => ?_
    refine CW.region ?_
    refine LW.pure rfl rfl (RV.move rfl) ?_
    refine LW.pure rfl rfl (RV.assign rfl) ?_
    refine LW.pure rfl rfl (RV.assign rfl) ?_
    refine LW.pure rfl rfl (RV.assign rfl) ?_
    refine LW.nil (hK7 _ _ ?_)
    refine CW.ret ?_
    obtain rfl := Option.some.inj F
    refine ⟨_, (ResOK.three rfl rfl rfl), ?_⟩
    replace H := H.nilOwn 3 1
    replace R0 := H.ext
    replace H := H.pick (L' := [.own none 0 3 1 (List.map encN (([] : List Int)))]) [0] (by decide) rfl
    replace R0 := H.ext
    exact ⟨none, 0, (by first | rfl | (simp; done) | (simp; omega)), H⟩

set_option maxRecDepth 20000 in
set_option maxHeartbeats 1000000 in
theorem ref04_LiesIn_ok {a0 : List Int} {a1 : List Int} {A_a0 : Option Addr} {c_a0 : Nat} {A_a1 : Option Addr} {c_a1 : Nat} {w : World} {res : Bool} (h_a0 : Sl w A_a0 c_a0 1 (a0.map encN)) (h_a1 : Sl w A_a1 c_a1 1 (a1.map encN)) (F : ref04_LiesIn a0 a1 = some res) : Calls Try.prog 32 #[.slice A_a0 a0.length c_a0, .slice A_a1 a1.length c_a1] w (Rt w (.bool res)) := by
  refine calls_of_cw (args := [.slice A_a0 a0.length c_a0, .slice A_a1 a1.length c_a1]) Try.func32 rfl rfl rfl rfl ?_
  have H := Hp.start w
  have R0 := H.ext
  unfold ref04_LiesIn at F
  refine CW.seq fun K1 hK1 => ?_
  refine CW.region ?_
  refine LW.pure rfl rfl (RV.assign rfl) ?_
  refine LW.nil (hK1 _ _ ?_)
  refine CW.seqJ (fun ρ wl1 => (ref04_LiesIn_k1 a0 a1 = some res ∧ ρ = [(0, .slice A_a0 a0.length c_a0), (1, .slice A_a1 a1.length c_a1), (4, .bool false)] ∧ Hp w wl1 [])) ?_ ?_
  ·
    rintro _ wl1 ⟨F, rfl, H⟩
    have R0 := H.ext
    unfold ref04_LiesIn_k1 at F
    refine CW.seq fun K2 hK2 => ?_
    refine CW.region ?_
    refine LW.pure rfl rfl (RV.move rfl) ?_
    refine LW.pure rfl rfl (RV.len Ts25 rfl) ?_
    refine LW.pure rfl rfl (RV.move rfl) ?_
    refine LW.pure rfl rfl (RV.len Ts25 rfl) ?_
    refine LW.pure rfl rfl (RV.eqi rfl rfl) ?_
    refine LW.pure rfl rfl (RV.assign rfl) ?_
    refine LW.nil (hK2 _ _ ?_)
    refine CW.ret ?_
    obtain rfl := Option.some.inj F
    refine ⟨_, (ResOK.one rfl), ?_⟩
    refine ⟨(by first | rfl | simp), R0⟩
  ·
    intro K3 hK3 jK54
    refine CW.seq fun K4 hK4 => ?_
    refine CW.region ?_
    refine LW.pure rfl rfl (RV.assign rfl) ?_
    refine LW.nil (hK4 _ _ ?_)
    refine CW.block ?_
    refine CW.loop (fun meas ρ wl2 => ∃ (t5_1 : Int), ref04_LiesIn_L1 a0 a1 meas t5_1 = some res ∧ ρ = [(0, .slice A_a0 a0.length c_a0), (1, .slice A_a1 a1.length c_a1), (4, .bool false), (5, .int .i64 t5_1)] ∧ Hp w wl2 []) FU ⟨_, ?_, ((0 : Int)), F, rfl, H⟩ ?_
    · exact ⟨rfl, rfl, rfl, rfl, trivial⟩
    rintro mk1 _ wl2 ⟨t5_1, F, rfl, H⟩
    have R0 := H.ext
    replace F := ref04_LiesIn_L1_s F
    obtain ⟨mk1, rfl, F⟩ := F
    generalize hrec1 : ref04_LiesIn_L1 a0 a1 mk1 = rec1 at F
    unfold ref04_LiesIn_B1 at F
    refine CW.seq fun K5 hK5 => ?_
    refine CW.seqJ (fun ρ wl3 => (∃ (t15_1 : Bool), ref04_LiesIn_k2 a0 a1 t5_1 rec1 t15_1 = some res ∧ ρ = [(0, .slice A_a0 a0.length c_a0), (1, .slice A_a1 a1.length c_a1), (4, .bool false), (5, .int .i64 t5_1), (15, .bool t15_1)] ∧ Hp w wl3 [])) ?_ ?_
    ·
      rintro _ wl3 ⟨t15_1, F, rfl, H⟩
      have R0 := H.ext
      unfold ref04_LiesIn_k2 at F
      by_cases hp1 : t15_1 = true
      ·
        replace F := ite_y hp1 F
        have hq1 : t15_1 = true := hp1
        refine CW.condT rfl hq1 ?_
        refine CW.skip (hK5 _ _ ?_)
        refine CW.seq fun K6 hK6 => ?_
        refine CW.block ?_
        refine CW.seq fun K7 hK7 => ?_
        obtain ⟨x1, hbx1, hx1, F⟩ := ix_some F
        obtain ⟨x2, hbx2, hx2, F⟩ := ix_some F
        refine CW.draw [] (fun _ => True) (.cons 0 1 (.cons 1 1 (.cons 2 1 (.cons 3 1 (.cons 4 1 (.cons 5 1 (.cons 6 1 (.cons 7 1 (.cons 8 1 .nil))))))))) mixed (by kernel_rfl) fun w1 E1 => ?_
        replace H := H.grow E1
        replace R0 := H.ext
        refine DW.fix rfl rfl rfl (fun _ EQ => RV.move rfl) ?_
        refine DW.fix rfl rfl rfl (fun _ EQ => RV.move rfl) ?_
        refine DW.fix rfl rfl rfl (fun _ EQ => RV.indexAddr Ts25 rfl rfl hbx1 (h_a0.addr_ hx1)) ?_
        refine DW.fix rfl rfl rfl (fun _ EQ => RV.load1 Tk3 rfl ((h_a0.at_ hx1).ext (R0.trans EQ)) rfl) ?_
        refine DW.fix rfl rfl rfl (fun _ EQ => RV.move rfl) ?_
        refine DW.fix rfl rfl rfl (fun _ EQ => RV.move rfl) ?_
        refine DW.fix rfl rfl rfl (fun _ EQ => RV.indexAddr Ts25 rfl rfl hbx2 (h_a1.addr_ hx2)) ?_
        refine DW.fix rfl rfl rfl (fun _ EQ => RV.load1 Tk3 rfl ((h_a1.at_ hx2).ext (R0.trans EQ)) rfl) ?_
        refine DW.fix rfl rfl rfl (fun _ EQ => RV.gtr rfl rfl) ?_
        refine DW.nil (hK7 _ _ ?_)
        by_cases hp2 : x2 < x1
        ·
          replace F := ite_y hp2 F
          have hq2 := dec_t hp2
          refine CW.condT rfl hq2 ?_
          refine CW.seq fun K8 hK8 => ?_
          refine CW.region ?_
          refine LW.pure rfl rfl (RV.assign rfl) ?_
          refine LW.nil (hK8 _ _ ?_)
          refine CW.ret ?_
          obtain rfl := Option.some.inj F
          refine ⟨_, (ResOK.one rfl), ?_⟩
          refine ⟨(by first | rfl | simp), R0⟩
        ·
          replace F := ite_n hp2 F
          have hq2 := dec_f hp2
          refine CW.condF rfl hq2 ?_
          refine CW.skip (hK6 _ _ ?_)
          obtain ⟨hg1, F⟩ := gd_some F
          refine CW.region ?_
          refine LW.pure rfl rfl (RV.move rfl) ?_
          refine LW.pure rfl rfl (RV.add rfl rfl hg1) ?_
          refine LW.pure rfl rfl (RV.assign rfl) ?_
          refine LW.nil ?_
          subst hrec1
          refine ⟨mk1, Nat.lt_succ_self _, _, ?_, (t5_1 + 1), F, rfl, H⟩
          exact ⟨rfl, rfl, rfl, rfl, trivial⟩
      ·
        replace F := ite_n hp1 F
        have hq1 : t15_1 = false := raw_f hp1
        refine CW.condF rfl hq1 ?_
        refine CW.exit (jK54 _ _ ⟨_, ?_, ⟨F, rfl, H⟩⟩)
        exact ⟨rfl, rfl, rfl, trivial⟩
    ·
      intro K9 hK9 jK70
      by_cases hp3 : t5_1 < ((a0.length : Int))
      ·
        replace F := ite_y hp3 F
        have hq3 := dec_t hp3
        refine CW.region ?_
        refine LW.pure rfl rfl (RV.move rfl) ?_
        refine LW.pure rfl rfl (RV.move rfl) ?_
        refine LW.pure rfl rfl (RV.len Ts25 rfl) ?_
        refine LW.pure rfl rfl (RV.lss rfl rfl) ?_
        refine LW.pure rfl rfl (RV.move rfl) ?_
        refine LW.pureYB rfl rfl rfl rfl hq3 (RV.move rfl) ?_
        refine LW.pureYB rfl rfl rfl rfl hq3 (RV.move rfl) ?_
        refine LW.pureYB rfl rfl rfl rfl hq3 (RV.len Ts25 rfl) ?_
        refine LW.pureYB rfl rfl rfl rfl hq3 (RV.lss rfl rfl) ?_
        refine LW.pure rfl rfl (RV.pickTB rfl hq3 rfl) ?_
        refine LW.nil (jK70 _ _ ⟨_, ?_, ⟨(decide (t5_1 < ((a1.length : Int)))), F, rfl, H⟩⟩)
        exact ⟨rfl, rfl, rfl, rfl, rfl, trivial⟩
      ·
        replace F := ite_n hp3 F
        have hq3 := dec_f hp3
        refine CW.region ?_
        refine LW.pure rfl rfl (RV.move rfl) ?_
        refine LW.pure rfl rfl (RV.move rfl) ?_
        refine LW.pure rfl rfl (RV.len Ts25 rfl) ?_
        refine LW.pure rfl rfl (RV.lss rfl rfl) ?_
        refine LW.pure rfl rfl (RV.move rfl) ?_
        refine LW.noB rfl rfl rfl rfl (ne_beq (v := false) hq3 rfl) ?_
        refine LW.noB rfl rfl rfl rfl (ne_beq (v := false) hq3 rfl) ?_
        refine LW.noB rfl rfl rfl rfl (ne_beq (v := false) hq3 rfl) ?_
        refine LW.noB rfl rfl rfl rfl (ne_beq (v := false) hq3 rfl) ?_
        refine LW.pure rfl rfl (RV.pickFB rfl hq3 rfl) ?_
        refine LW.nil (jK70 _ _ ⟨_, ?_, ⟨false, F, rfl, H⟩⟩)
        exact ⟨rfl, rfl, rfl, rfl, rfl, trivial⟩

set_option maxRecDepth 20000 in
set_option maxHeartbeats 1000000 in
theorem law04_CutTolls_ok {a0 : Bog} {a1 : Int} {A_a0_worth : Option Addr} {c_a0_worth : Nat} {w : World} {res : Bool} (h_a0_worth : Sl2 w A_a0_worth c_a0_worth 1 encN a0.worth) (F : law04_CutTolls a0 a1 = some res) : Calls Try.prog 10 #[.agg #[.slice A_a0_worth a0.worth.length c_a0_worth], .int .i64 a1] w (Rt w (.bool res)) := by
  refine calls_of_cw (args := [.agg #[.slice A_a0_worth a0.worth.length c_a0_worth], .int .i64 a1]) Try.func10 rfl rfl rfl rfl ?_
  have H := Hp.start w
  have R0 := H.ext
  unfold law04_CutTolls at F
  refine CW.seq fun K1 hK1 => ?_
  refine CW.region ?_
  refine LW.go rfl rfl (OW.box rfl fun b1 w1 N1 => ?_)
  replace H := H.new N1 N1.blk
  replace R0 := H.ext
  refine LW.pure rfl rfl (RV.assign rfl) ?_
  refine LW.nil (hK1 _ _ ?_)
  refine CW.seq fun K2 hK2 => ?_
  refine CW.seq fun K3 hK3 => ?_
  obtain ⟨r10, hr10, F⟩ := bnd_some F
  refine CW.region ?_
  refine LW.pure rfl rfl (RV.loadA [.slice A_a0_worth a0.worth.length c_a0_worth] Tk24 rfl (H.blk 0 rfl).cells rfl rfl) ?_
  refine LW.go rfl rfl (OW.call Tc17 rfl (law04_Long_ok (a0 := a0) (a1 := ([] : List (List Int))) (h_a0_worth.ext R0) (Sl2.nil_) hr10) ?_)
  rintro _ w2 ⟨rfl, E1⟩
  refine ⟨_, rfl, ?_⟩
  replace H := H.grow E1
  replace R0 := H.ext
  refine LW.nil (hK3 _ _ ?_)
  by_cases hp1 : r10 = true
  ·
    replace F := ite_y hp1 F
    have hq1 : r10 = true := hp1
    refine CW.condT rfl hq1 ?_
    refine CW.seq fun K4 hK4 => ?_
    obtain ⟨r11, hr11, F⟩ := bnd_some F
    refine CW.region ?_
    refine LW.go rfl rfl (OW.call Tc18 rfl (law04_sane_ok hr11) ?_)
    rintro _ w3 ⟨rfl, E2⟩
    refine ⟨_, rfl, ?_⟩
    replace H := H.grow E2
    replace R0 := H.ext
    refine LW.pure rfl rfl (RV.assign rfl) ?_
    refine LW.nil (hK4 _ _ ?_)
    refine CW.ret ?_
    obtain rfl := Option.some.inj F
    refine ⟨_, (ResOK.one rfl), ?_⟩
    refine ⟨(by first | rfl | simp), R0⟩
  ·
    replace F := ite_n hp1 F
    have hq1 : r10 = false := raw_f hp1
    refine CW.condF rfl hq1 ?_
    refine CW.skip (hK2 _ _ ?_)
    refine CW.seq fun K5 hK5 => ?_
    obtain ⟨r1, hr1, F⟩ := bnd_some F
    refine CW.region ?_
    refine LW.pure rfl rfl (RV.loadA [.slice A_a0_worth a0.worth.length c_a0_worth] Tk24 rfl (H.blk 0 rfl).cells rfl rfl) ?_
    refine LW.pure rfl rfl (RV.move rfl) ?_
    refine LW.go rfl rfl (OW.call Tc47 rfl (cut_Toll_ok (a0 := a0) (a1 := a1) (h_a0_worth.ext R0) hr1) ?_)
    rintro _ w4 ⟨A20_0_worth, c20_0_worth, hs20_0_worth, rfl, E3⟩
    refine ⟨_, rfl, ?_⟩
    replace H : Hp w w4 [.tab A20_0_worth c20_0_worth 25 hs20_0_worth 3 1 (encM encN r1.1.worth), .blk b1 24 [.slice A_a0_worth a0.worth.length c_a0_worth]] := H.append E3
    replace R0 := H.ext
    refine LW.pure rfl rfl (RV.move rfl) ?_
    refine LW.pure rfl rfl (RV.extract rfl rfl) ?_
    refine LW.pure rfl rfl (RV.extract rfl rfl) ?_
    refine LW.go rfl rfl (OW.alloc Tz24 fun b2 w5 N2 => ?_)
    replace H := H.new N2 N2.blk
    replace R0 := H.ext
    refine LW.go rfl rfl (OW.store Tk24 rfl rfl (H.blk 0 rfl) (off := 0) (vs := [.slice A20_0_worth r1.1.worth.length c20_0_worth]) rfl rfl rfl rfl rfl fun w6 S1 => ?_)
    replace H : Hp w w6 [.blk b2 24 [.slice A20_0_worth r1.1.worth.length c20_0_worth], .tab A20_0_worth c20_0_worth 25 hs20_0_worth 3 1 (encM encN r1.1.worth), .blk b1 24 [.slice A_a0_worth a0.worth.length c_a0_worth]] := H.stored 0 rfl S1
    replace R0 := H.ext
    refine LW.pure rfl rfl (RV.assign rfl) ?_
    refine LW.nil (hK5 _ _ ?_)
    refine CW.seq fun K6 hK6 => ?_
    obtain ⟨r12, hr12, F⟩ := bnd_some F
    refine CW.region ?_
    refine LW.pure rfl rfl (RV.loadA [.slice A_a0_worth a0.worth.length c_a0_worth] Tk24 rfl (H.blk 2 rfl).cells rfl rfl) ?_
    refine LW.pure rfl rfl (RV.move rfl) ?_
    refine LW.go rfl rfl (OW.call Tc48 rfl (ref04_Toll_ok (a0 := a0) (a1 := a1) (h_a0_worth.ext R0) hr12) ?_)
    rintro _ w7 ⟨A22_0_worth, c22_0_worth, hs22_0_worth, rfl, E4⟩
    refine ⟨_, rfl, ?_⟩
    replace H : Hp w w7 [.tab A22_0_worth c22_0_worth 25 hs22_0_worth 3 1 (encM encN r12.1.worth), .blk b2 24 [.slice A20_0_worth r1.1.worth.length c20_0_worth], .tab A20_0_worth c20_0_worth 25 hs20_0_worth 3 1 (encM encN r1.1.worth), .blk b1 24 [.slice A_a0_worth a0.worth.length c_a0_worth]] := H.append E4
    replace R0 := H.ext
    refine LW.pure rfl rfl (RV.move rfl) ?_
    refine LW.pure rfl rfl (RV.extract rfl rfl) ?_
    refine LW.pure rfl rfl (RV.extract rfl rfl) ?_
    refine LW.go rfl rfl (OW.alloc Tz24 fun b3 w8 N3 => ?_)
    replace H := H.new N3 N3.blk
    replace R0 := H.ext
    refine LW.go rfl rfl (OW.store Tk24 rfl rfl (H.blk 0 rfl) (off := 0) (vs := [.slice A22_0_worth r12.1.worth.length c22_0_worth]) rfl rfl rfl rfl rfl fun w9 S2 => ?_)
    replace H : Hp w w9 [.blk b3 24 [.slice A22_0_worth r12.1.worth.length c22_0_worth], .tab A22_0_worth c22_0_worth 25 hs22_0_worth 3 1 (encM encN r12.1.worth), .blk b2 24 [.slice A20_0_worth r1.1.worth.length c20_0_worth], .tab A20_0_worth c20_0_worth 25 hs20_0_worth 3 1 (encM encN r1.1.worth), .blk b1 24 [.slice A_a0_worth a0.worth.length c_a0_worth]] := H.stored 0 rfl S2
    replace R0 := H.ext
    refine LW.pure rfl rfl (RV.assign rfl) ?_
    refine LW.nil (hK6 _ _ ?_)
    refine CW.seq fun K7 hK7 => ?_
    refine CW.seqJ (fun ρ wl1 => (∃ (t44_1 : Bool), law04_CutTolls_k2 a0 a1 r1 t44_1 = some res ∧ ρ = [(1, .int .i64 a1), (2, .pointer (some (⟨b1, 0, none⟩))), (4, .bool false), (5, .pointer (some (⟨b2, 0, none⟩))), (6, .int .i64 r1.2), (44, .bool t44_1)] ∧ Hp w wl1 [.tab A20_0_worth c20_0_worth 25 hs20_0_worth 3 1 (encM encN r1.1.worth), .blk b1 24 [.slice A_a0_worth a0.worth.length c_a0_worth], .blk b2 24 [.slice A20_0_worth r1.1.worth.length c20_0_worth]])) ?_ ?_
    ·
      rintro _ wl1 ⟨t44_1, F, rfl, H⟩
      have R0 := H.ext
      unfold law04_CutTolls_k2 at F
      by_cases hp2 : t44_1 = true
      ·
        replace F := ite_y hp2 F
        have hq2 : t44_1 = true := hp2
        refine CW.condT rfl hq2 ?_
        refine CW.seq fun K8 hK8 => ?_
        refine CW.region ?_
        refine LW.pure rfl rfl (RV.assign rfl) ?_
        refine LW.nil (hK8 _ _ ?_)
        refine CW.ret ?_
        obtain rfl := Option.some.inj F
        refine ⟨_, (ResOK.one rfl), ?_⟩
        refine ⟨(by first | rfl | simp), R0⟩
      ·
        replace F := ite_n hp2 F
        have hq2 : t44_1 = false := raw_f hp2
        refine CW.condF rfl hq2 ?_
        refine CW.skip (hK7 _ _ ?_)
        refine CW.seq fun K9 hK9 => ?_
        refine CW.seqJ (fun ρ wl2 => (∃ (t50_1 : Bool), law04_CutTolls_k1 a0 r1 t50_1 = some res ∧ ρ = [(2, .pointer (some (⟨b1, 0, none⟩))), (4, .bool false), (5, .pointer (some (⟨b2, 0, none⟩))), (50, .bool t50_1)] ∧ Hp w wl2 [.tab A20_0_worth c20_0_worth 25 hs20_0_worth 3 1 (encM encN r1.1.worth), .blk b1 24 [.slice A_a0_worth a0.worth.length c_a0_worth], .blk b2 24 [.slice A20_0_worth r1.1.worth.length c20_0_worth]])) ?_ ?_
        ·
          rintro _ wl2 ⟨t50_1, F, rfl, H⟩
          have R0 := H.ext
          unfold law04_CutTolls_k1 at F
          by_cases hp3 : t50_1 = true
          ·
            replace F := ite_y hp3 F
            have hq3 : t50_1 = true := hp3
            refine CW.condT rfl hq3 ?_
            refine CW.seq fun K10 hK10 => ?_
            obtain ⟨r2, hr2, F⟩ := bnd_some F
            refine CW.region ?_
            refine LW.go rfl rfl (OW.call Tc18 rfl (law04_sane_ok hr2) ?_)
            rintro _ w10 ⟨rfl, E5⟩
            refine ⟨_, rfl, ?_⟩
            replace H := H.grow E5
            replace R0 := H.ext
            refine LW.pure rfl rfl (RV.assign rfl) ?_
            refine LW.nil (hK10 _ _ ?_)
            refine CW.ret ?_
            obtain rfl := Option.some.inj F
            refine ⟨_, (ResOK.one rfl), ?_⟩
            refine ⟨(by first | rfl | simp), R0⟩
          ·
            replace F := ite_n hp3 F
            have hq3 : t50_1 = false := raw_f hp3
            refine CW.condF rfl hq3 ?_
            refine CW.skip (hK9 _ _ ?_)
            refine CW.seq fun K11 hK11 => ?_
            obtain ⟨r3, hr3, F⟩ := bnd_some F
            refine CW.region ?_
            refine LW.pure rfl rfl (RV.loadA [.slice A20_0_worth r1.1.worth.length c20_0_worth] Tk24 rfl (H.blk 2 rfl).cells rfl rfl) ?_
            refine LW.go rfl rfl (OW.call Tc28 rfl (cut_Best_ok (a0 := r1.1) (H.tab 0 rfl).sl2 hr3) ?_)
            rintro _ w11 ⟨A27_0, c27_0, rfl, E6⟩
            refine ⟨_, rfl, ?_⟩
            replace H : Hp w w11 [.own A27_0 c27_0 3 1 (List.map encN r3.1), .tab A20_0_worth c20_0_worth 25 hs20_0_worth 3 1 (encM encN r1.1.worth), .blk b1 24 [.slice A_a0_worth a0.worth.length c_a0_worth], .blk b2 24 [.slice A20_0_worth r1.1.worth.length c20_0_worth]] := H.append E6
            replace R0 := H.ext
            refine LW.pure rfl rfl (RV.move rfl) ?_
            refine LW.pure rfl rfl (RV.extract rfl rfl) ?_
            refine LW.pure rfl rfl (RV.extract rfl rfl) ?_
            refine LW.pure rfl rfl (RV.extract rfl rfl) ?_
            refine LW.pure rfl rfl (RV.assign rfl) ?_
            refine LW.pure rfl rfl (RV.assign rfl) ?_
            refine LW.pure rfl rfl (RV.assign rfl) ?_
            refine LW.nil (hK11 _ _ ?_)
            refine CW.seq fun K12 hK12 => ?_
            obtain ⟨r4, hr4, F⟩ := bnd_some F
            refine CW.region ?_
            refine LW.pure rfl rfl (RV.loadA [.slice A_a0_worth a0.worth.length c_a0_worth] Tk24 rfl (H.blk 2 rfl).cells rfl rfl) ?_
            refine LW.go rfl rfl (OW.call Tc28 rfl (cut_Best_ok (a0 := a0) (h_a0_worth.ext R0) hr4) ?_)
            rintro _ w12 ⟨A29_0, c29_0, rfl, E7⟩
            refine ⟨_, rfl, ?_⟩
            replace H : Hp w w12 [.own A29_0 c29_0 3 1 (List.map encN r4.1), .own A27_0 c27_0 3 1 (List.map encN r3.1), .tab A20_0_worth c20_0_worth 25 hs20_0_worth 3 1 (encM encN r1.1.worth), .blk b1 24 [.slice A_a0_worth a0.worth.length c_a0_worth], .blk b2 24 [.slice A20_0_worth r1.1.worth.length c20_0_worth]] := H.append E7
            replace R0 := H.ext
            refine LW.pure rfl rfl (RV.move rfl) ?_
            refine LW.pure rfl rfl (RV.extract rfl rfl) ?_
            refine LW.pure rfl rfl (RV.extract rfl rfl) ?_
            refine LW.pure rfl rfl (RV.extract rfl rfl) ?_
            refine LW.pure rfl rfl (RV.assign rfl) ?_
            refine LW.pure rfl rfl (RV.assign rfl) ?_
            refine LW.pure rfl rfl (RV.assign rfl) ?_
            refine LW.nil (hK12 _ _ ?_)
            refine CW.seq fun K13 hK13 => ?_
            obtain ⟨r5, hr5, F⟩ := bnd_some F
            refine CW.region ?_
            refine LW.pure rfl rfl (RV.loadA [.slice A20_0_worth r1.1.worth.length c20_0_worth] Tk24 rfl (H.blk 4 rfl).cells rfl rfl) ?_
            refine LW.go rfl rfl (OW.call Tc30 rfl (cut_Deepest_ok (a0 := r1.1) (H.tab 2 rfl).sl2 hr5) ?_)
            rintro _ w13 ⟨A31_0, c31_0, rfl, E8⟩
            refine ⟨_, rfl, ?_⟩
            replace H : Hp w w13 [.own A31_0 c31_0 3 1 (List.map encN r5.1), .own A29_0 c29_0 3 1 (List.map encN r4.1), .own A27_0 c27_0 3 1 (List.map encN r3.1), .tab A20_0_worth c20_0_worth 25 hs20_0_worth 3 1 (encM encN r1.1.worth), .blk b1 24 [.slice A_a0_worth a0.worth.length c_a0_worth], .blk b2 24 [.slice A20_0_worth r1.1.worth.length c20_0_worth]] := H.append E8
            replace R0 := H.ext
            refine LW.pure rfl rfl (RV.move rfl) ?_
            refine LW.pure rfl rfl (RV.extract rfl rfl) ?_
            refine LW.pure rfl rfl (RV.extract rfl rfl) ?_
            refine LW.pure rfl rfl (RV.extract rfl rfl) ?_
            refine LW.pure rfl rfl (RV.assign rfl) ?_
            refine LW.pure rfl rfl (RV.assign rfl) ?_
            refine LW.pure rfl rfl (RV.assign rfl) ?_
            refine LW.nil (hK13 _ _ ?_)
            refine CW.seq fun K14 hK14 => ?_
            obtain ⟨r6, hr6, F⟩ := bnd_some F
            refine CW.region ?_
            refine LW.pure rfl rfl (RV.loadA [.slice A_a0_worth a0.worth.length c_a0_worth] Tk24 rfl (H.blk 4 rfl).cells rfl rfl) ?_
            refine LW.go rfl rfl (OW.call Tc30 rfl (cut_Deepest_ok (a0 := a0) (h_a0_worth.ext R0) hr6) ?_)
            rintro _ w14 ⟨A33_0, c33_0, rfl, E9⟩
            refine ⟨_, rfl, ?_⟩
            replace H : Hp w w14 [.own A33_0 c33_0 3 1 (List.map encN r6.1), .own A31_0 c31_0 3 1 (List.map encN r5.1), .own A29_0 c29_0 3 1 (List.map encN r4.1), .own A27_0 c27_0 3 1 (List.map encN r3.1), .tab A20_0_worth c20_0_worth 25 hs20_0_worth 3 1 (encM encN r1.1.worth), .blk b1 24 [.slice A_a0_worth a0.worth.length c_a0_worth], .blk b2 24 [.slice A20_0_worth r1.1.worth.length c20_0_worth]] := H.append E9
            replace R0 := H.ext
            refine LW.pure rfl rfl (RV.move rfl) ?_
            refine LW.pure rfl rfl (RV.extract rfl rfl) ?_
            refine LW.pure rfl rfl (RV.extract rfl rfl) ?_
            refine LW.pure rfl rfl (RV.extract rfl rfl) ?_
            refine LW.pure rfl rfl (RV.assign rfl) ?_
            refine LW.pure rfl rfl (RV.assign rfl) ?_
            refine LW.pure rfl rfl (RV.assign rfl) ?_
            refine LW.nil (hK14 _ _ ?_)
            refine CW.seq fun K15 hK15 => ?_
            by_cases hp4 : r3.2.2 = 0
            ·
              replace F := ite_y hp4 F
              have hq4 := dec_t hp4
              by_cases hp5 : r4.2.2 = 0
              ·
                replace F := ite_y hp5 F
                have hq5 := dec_t hp5
                by_cases hp6 : r5.2.2 = 0
                ·
                  replace F := ite_y hp6 F
                  have hq6 := dec_t hp6
                  by_cases hp7 : r6.2.2 = 0
                  ·
                    replace F := ite_y hp7 F
                    have hq7 := dec_t hp7
                    by_cases hp8 : r3.2.1 ≤ r4.2.1
                    ·
                      replace F := ite_y hp8 F
                      have hq8 := dec_t hp8
                      obtain ⟨r7, hr7, F⟩ := bnd_some F
                      by_cases hp9 : r7 = true
                      ·
                        replace F := ite_y hp9 F
                        have hq9 : r7 = true := hp9
                        obtain ⟨r8, hr8, F⟩ := bnd_some F
                        by_cases hp10 : r8 = true
                        ·
                          replace F := ite_y hp10 F
                          have hq10 : r8 = true := hp10
                          obtain ⟨r9, hr9, F⟩ := bnd_some F
                          refine CW.region ?_
                          refine LW.pure rfl rfl (RV.move rfl) ?_
                          refine LW.pure rfl rfl (RV.eqi rfl rfl) ?_
                          refine LW.pure rfl rfl (RV.move rfl) ?_
                          refine LW.pureYB rfl rfl rfl rfl hq4 (RV.move rfl) ?_
                          refine LW.pureYB rfl rfl rfl rfl hq4 (RV.eqi rfl rfl) ?_
                          refine LW.pure rfl rfl (RV.pickTB rfl hq4 rfl) ?_
                          refine LW.pure rfl rfl (RV.move rfl) ?_
                          refine LW.pureYB rfl rfl rfl rfl hq5 (RV.move rfl) ?_
                          refine LW.pureYB rfl rfl rfl rfl hq5 (RV.eqi rfl rfl) ?_
                          refine LW.pure rfl rfl (RV.pickTB rfl hq5 rfl) ?_
                          refine LW.pure rfl rfl (RV.move rfl) ?_
                          refine LW.pureYB rfl rfl rfl rfl hq6 (RV.move rfl) ?_
                          refine LW.pureYB rfl rfl rfl rfl hq6 (RV.eqi rfl rfl) ?_
                          refine LW.pure rfl rfl (RV.pickTB rfl hq6 rfl) ?_
                          refine LW.pure rfl rfl (RV.move rfl) ?_
                          refine LW.pureYB rfl rfl rfl rfl hq7 (RV.move rfl) ?_
                          refine LW.pureYB rfl rfl rfl rfl hq7 (RV.move rfl) ?_
                          refine LW.pureYB rfl rfl rfl rfl hq7 (RV.leq rfl rfl) ?_
                          refine LW.pure rfl rfl (RV.pickTB rfl hq7 rfl) ?_
                          refine LW.pure rfl rfl (RV.move rfl) ?_
                          refine LW.pureYB rfl rfl rfl rfl hq8 (RV.move rfl) ?_
                          refine LW.pureYB rfl rfl rfl rfl hq8 (RV.move rfl) ?_
                          refine LW.yesB rfl rfl rfl rfl hq8 (OW.call Tc32 rfl (ref04_LiesIn_ok (a0 := r3.1) (a1 := r4.1) (H.own 3 rfl).sl (H.own 2 rfl).sl hr7) ?_)
                          rintro _ w15 ⟨rfl, E10⟩
                          refine ⟨_, rfl, ?_⟩
                          replace H := H.grow E10
                          replace R0 := H.ext
                          refine LW.pure rfl rfl (RV.pickTB rfl hq8 rfl) ?_
                          refine LW.pure rfl rfl (RV.move rfl) ?_
                          refine LW.pureYB rfl rfl rfl rfl hq9 (RV.move rfl) ?_
                          refine LW.pureYB rfl rfl rfl rfl hq9 (RV.move rfl) ?_
                          refine LW.yesB rfl rfl rfl rfl hq9 (OW.call Tc32 rfl (ref04_LiesIn_ok (a0 := r5.1) (a1 := r6.1) (H.own 1 rfl).sl (H.own 0 rfl).sl hr8) ?_)
                          rintro _ w16 ⟨rfl, E11⟩
                          refine ⟨_, rfl, ?_⟩
                          replace H := H.grow E11
                          replace R0 := H.ext
                          refine LW.pure rfl rfl (RV.pickTB rfl hq9 rfl) ?_
                          refine LW.pure rfl rfl (RV.move rfl) ?_
                          refine LW.yesB rfl rfl rfl rfl hq10 (OW.call Tc18 rfl (law04_sane_ok hr9) ?_)
                          rintro _ w17 ⟨rfl, E12⟩
                          refine ⟨_, rfl, ?_⟩
                          replace H := H.grow E12
                          replace R0 := H.ext
                          refine LW.pure rfl rfl (RV.pickTB rfl hq10 rfl) ?_
                          refine LW.pure rfl rfl (RV.assign rfl) ?_
                          refine LW.nil (hK15 _ _ ?_)
                          refine CW.ret ?_
                          obtain rfl := Option.some.inj F
                          refine ⟨_, (ResOK.one rfl), ?_⟩
                          refine ⟨(by first | rfl | simp), R0⟩
                        ·
                          replace F := ite_n hp10 F
                          have hq10 : r8 = false := raw_f hp10
                          refine CW.region ?_
                          refine LW.pure rfl rfl (RV.move rfl) ?_
                          refine LW.pure rfl rfl (RV.eqi rfl rfl) ?_
                          refine LW.pure rfl rfl (RV.move rfl) ?_
                          refine LW.pureYB rfl rfl rfl rfl hq4 (RV.move rfl) ?_
                          refine LW.pureYB rfl rfl rfl rfl hq4 (RV.eqi rfl rfl) ?_
                          refine LW.pure rfl rfl (RV.pickTB rfl hq4 rfl) ?_
                          refine LW.pure rfl rfl (RV.move rfl) ?_
                          refine LW.pureYB rfl rfl rfl rfl hq5 (RV.move rfl) ?_
                          refine LW.pureYB rfl rfl rfl rfl hq5 (RV.eqi rfl rfl) ?_
                          refine LW.pure rfl rfl (RV.pickTB rfl hq5 rfl) ?_
                          refine LW.pure rfl rfl (RV.move rfl) ?_
                          refine LW.pureYB rfl rfl rfl rfl hq6 (RV.move rfl) ?_
                          refine LW.pureYB rfl rfl rfl rfl hq6 (RV.eqi rfl rfl) ?_
                          refine LW.pure rfl rfl (RV.pickTB rfl hq6 rfl) ?_
                          refine LW.pure rfl rfl (RV.move rfl) ?_
                          refine LW.pureYB rfl rfl rfl rfl hq7 (RV.move rfl) ?_
                          refine LW.pureYB rfl rfl rfl rfl hq7 (RV.move rfl) ?_
                          refine LW.pureYB rfl rfl rfl rfl hq7 (RV.leq rfl rfl) ?_
                          refine LW.pure rfl rfl (RV.pickTB rfl hq7 rfl) ?_
                          refine LW.pure rfl rfl (RV.move rfl) ?_
                          refine LW.pureYB rfl rfl rfl rfl hq8 (RV.move rfl) ?_
                          refine LW.pureYB rfl rfl rfl rfl hq8 (RV.move rfl) ?_
                          refine LW.yesB rfl rfl rfl rfl hq8 (OW.call Tc32 rfl (ref04_LiesIn_ok (a0 := r3.1) (a1 := r4.1) (H.own 3 rfl).sl (H.own 2 rfl).sl hr7) ?_)
                          rintro _ w18 ⟨rfl, E13⟩
                          refine ⟨_, rfl, ?_⟩
                          replace H := H.grow E13
                          replace R0 := H.ext
                          refine LW.pure rfl rfl (RV.pickTB rfl hq8 rfl) ?_
                          refine LW.pure rfl rfl (RV.move rfl) ?_
                          refine LW.pureYB rfl rfl rfl rfl hq9 (RV.move rfl) ?_
                          refine LW.pureYB rfl rfl rfl rfl hq9 (RV.move rfl) ?_
                          refine LW.yesB rfl rfl rfl rfl hq9 (OW.call Tc32 rfl (ref04_LiesIn_ok (a0 := r5.1) (a1 := r6.1) (H.own 1 rfl).sl (H.own 0 rfl).sl hr8) ?_)
                          rintro _ w19 ⟨rfl, E14⟩
                          refine ⟨_, rfl, ?_⟩
                          replace H := H.grow E14
                          replace R0 := H.ext
                          refine LW.pure rfl rfl (RV.pickTB rfl hq9 rfl) ?_
                          refine LW.pure rfl rfl (RV.move rfl) ?_
                          refine LW.noB rfl rfl rfl rfl (ne_beq (v := false) hq10 rfl) ?_
                          refine LW.pure rfl rfl (RV.pickFB rfl hq10 rfl) ?_
                          refine LW.pure rfl rfl (RV.assign rfl) ?_
                          refine LW.nil (hK15 _ _ ?_)
                          refine CW.ret ?_
                          obtain rfl := Option.some.inj F
                          refine ⟨_, (ResOK.one rfl), ?_⟩
                          refine ⟨(by first | rfl | simp), R0⟩
                      ·
                        replace F := ite_n hp9 F
                        have hq9 : r7 = false := raw_f hp9
                        refine CW.region ?_
                        refine LW.pure rfl rfl (RV.move rfl) ?_
                        refine LW.pure rfl rfl (RV.eqi rfl rfl) ?_
                        refine LW.pure rfl rfl (RV.move rfl) ?_
                        refine LW.pureYB rfl rfl rfl rfl hq4 (RV.move rfl) ?_
                        refine LW.pureYB rfl rfl rfl rfl hq4 (RV.eqi rfl rfl) ?_
                        refine LW.pure rfl rfl (RV.pickTB rfl hq4 rfl) ?_
                        refine LW.pure rfl rfl (RV.move rfl) ?_
                        refine LW.pureYB rfl rfl rfl rfl hq5 (RV.move rfl) ?_
                        refine LW.pureYB rfl rfl rfl rfl hq5 (RV.eqi rfl rfl) ?_
                        refine LW.pure rfl rfl (RV.pickTB rfl hq5 rfl) ?_
                        refine LW.pure rfl rfl (RV.move rfl) ?_
                        refine LW.pureYB rfl rfl rfl rfl hq6 (RV.move rfl) ?_
                        refine LW.pureYB rfl rfl rfl rfl hq6 (RV.eqi rfl rfl) ?_
                        refine LW.pure rfl rfl (RV.pickTB rfl hq6 rfl) ?_
                        refine LW.pure rfl rfl (RV.move rfl) ?_
                        refine LW.pureYB rfl rfl rfl rfl hq7 (RV.move rfl) ?_
                        refine LW.pureYB rfl rfl rfl rfl hq7 (RV.move rfl) ?_
                        refine LW.pureYB rfl rfl rfl rfl hq7 (RV.leq rfl rfl) ?_
                        refine LW.pure rfl rfl (RV.pickTB rfl hq7 rfl) ?_
                        refine LW.pure rfl rfl (RV.move rfl) ?_
                        refine LW.pureYB rfl rfl rfl rfl hq8 (RV.move rfl) ?_
                        refine LW.pureYB rfl rfl rfl rfl hq8 (RV.move rfl) ?_
                        refine LW.yesB rfl rfl rfl rfl hq8 (OW.call Tc32 rfl (ref04_LiesIn_ok (a0 := r3.1) (a1 := r4.1) (H.own 3 rfl).sl (H.own 2 rfl).sl hr7) ?_)
                        rintro _ w20 ⟨rfl, E15⟩
                        refine ⟨_, rfl, ?_⟩
                        replace H := H.grow E15
                        replace R0 := H.ext
                        refine LW.pure rfl rfl (RV.pickTB rfl hq8 rfl) ?_
                        refine LW.pure rfl rfl (RV.move rfl) ?_
                        refine LW.noB rfl rfl rfl rfl (ne_beq (v := false) hq9 rfl) ?_
                        refine LW.noB rfl rfl rfl rfl (ne_beq (v := false) hq9 rfl) ?_
                        refine LW.noB rfl rfl rfl rfl (ne_beq (v := false) hq9 rfl) ?_
                        refine LW.pure rfl rfl (RV.pickFB rfl hq9 rfl) ?_
                        refine LW.pure rfl rfl (RV.move rfl) ?_
                        refine LW.noB rfl rfl rfl rfl (ne_beq (v := false) rfl rfl) ?_
                        refine LW.pure rfl rfl (RV.pickFB rfl rfl rfl) ?_
                        refine LW.pure rfl rfl (RV.assign rfl) ?_
                        refine LW.nil (hK15 _ _ ?_)
                        refine CW.ret ?_
                        obtain rfl := Option.some.inj F
                        refine ⟨_, (ResOK.one rfl), ?_⟩
                        refine ⟨(by first | rfl | simp), R0⟩
                    ·
                      replace F := ite_n hp8 F
                      have hq8 := dec_f hp8
                      refine CW.region ?_
                      refine LW.pure rfl rfl (RV.move rfl) ?_
                      refine LW.pure rfl rfl (RV.eqi rfl rfl) ?_
                      refine LW.pure rfl rfl (RV.move rfl) ?_
                      refine LW.pureYB rfl rfl rfl rfl hq4 (RV.move rfl) ?_
                      refine LW.pureYB rfl rfl rfl rfl hq4 (RV.eqi rfl rfl) ?_
                      refine LW.pure rfl rfl (RV.pickTB rfl hq4 rfl) ?_
                      refine LW.pure rfl rfl (RV.move rfl) ?_
                      refine LW.pureYB rfl rfl rfl rfl hq5 (RV.move rfl) ?_
                      refine LW.pureYB rfl rfl rfl rfl hq5 (RV.eqi rfl rfl) ?_
                      refine LW.pure rfl rfl (RV.pickTB rfl hq5 rfl) ?_
                      refine LW.pure rfl rfl (RV.move rfl) ?_
                      refine LW.pureYB rfl rfl rfl rfl hq6 (RV.move rfl) ?_
                      refine LW.pureYB rfl rfl rfl rfl hq6 (RV.eqi rfl rfl) ?_
                      refine LW.pure rfl rfl (RV.pickTB rfl hq6 rfl) ?_
                      refine LW.pure rfl rfl (RV.move rfl) ?_
                      refine LW.pureYB rfl rfl rfl rfl hq7 (RV.move rfl) ?_
                      refine LW.pureYB rfl rfl rfl rfl hq7 (RV.move rfl) ?_
                      refine LW.pureYB rfl rfl rfl rfl hq7 (RV.leq rfl rfl) ?_
                      refine LW.pure rfl rfl (RV.pickTB rfl hq7 rfl) ?_
                      refine LW.pure rfl rfl (RV.move rfl) ?_
                      refine LW.noB rfl rfl rfl rfl (ne_beq (v := false) hq8 rfl) ?_
                      refine LW.noB rfl rfl rfl rfl (ne_beq (v := false) hq8 rfl) ?_
                      refine LW.noB rfl rfl rfl rfl (ne_beq (v := false) hq8 rfl) ?_
                      refine LW.pure rfl rfl (RV.pickFB rfl hq8 rfl) ?_
                      refine LW.pure rfl rfl (RV.move rfl) ?_
                      refine LW.noB rfl rfl rfl rfl (ne_beq (v := false) rfl rfl) ?_
                      refine LW.noB rfl rfl rfl rfl (ne_beq (v := false) rfl rfl) ?_
                      refine LW.noB rfl rfl rfl rfl (ne_beq (v := false) rfl rfl) ?_
                      refine LW.pure rfl rfl (RV.pickFB rfl rfl rfl) ?_
                      refine LW.pure rfl rfl (RV.move rfl) ?_
                      refine LW.noB rfl rfl rfl rfl (ne_beq (v := false) rfl rfl) ?_
                      refine LW.pure rfl rfl (RV.pickFB rfl rfl rfl) ?_
                      refine LW.pure rfl rfl (RV.assign rfl) ?_
                      refine LW.nil (hK15 _ _ ?_)
                      refine CW.ret ?_
                      obtain rfl := Option.some.inj F
                      refine ⟨_, (ResOK.one rfl), ?_⟩
                      refine ⟨(by first | rfl | simp), R0⟩
                  ·
                    replace F := ite_n hp7 F
                    have hq7 := dec_f hp7
                    refine CW.region ?_
                    refine LW.pure rfl rfl (RV.move rfl) ?_
                    refine LW.pure rfl rfl (RV.eqi rfl rfl) ?_
                    refine LW.pure rfl rfl (RV.move rfl) ?_
                    refine LW.pureYB rfl rfl rfl rfl hq4 (RV.move rfl) ?_
                    refine LW.pureYB rfl rfl rfl rfl hq4 (RV.eqi rfl rfl) ?_
                    refine LW.pure rfl rfl (RV.pickTB rfl hq4 rfl) ?_
                    refine LW.pure rfl rfl (RV.move rfl) ?_
                    refine LW.pureYB rfl rfl rfl rfl hq5 (RV.move rfl) ?_
                    refine LW.pureYB rfl rfl rfl rfl hq5 (RV.eqi rfl rfl) ?_
                    refine LW.pure rfl rfl (RV.pickTB rfl hq5 rfl) ?_
                    refine LW.pure rfl rfl (RV.move rfl) ?_
                    refine LW.pureYB rfl rfl rfl rfl hq6 (RV.move rfl) ?_
                    refine LW.pureYB rfl rfl rfl rfl hq6 (RV.eqi rfl rfl) ?_
                    refine LW.pure rfl rfl (RV.pickTB rfl hq6 rfl) ?_
                    refine LW.pure rfl rfl (RV.move rfl) ?_
                    refine LW.noB rfl rfl rfl rfl (ne_beq (v := false) hq7 rfl) ?_
                    refine LW.noB rfl rfl rfl rfl (ne_beq (v := false) hq7 rfl) ?_
                    refine LW.noB rfl rfl rfl rfl (ne_beq (v := false) hq7 rfl) ?_
                    refine LW.pure rfl rfl (RV.pickFB rfl hq7 rfl) ?_
                    refine LW.pure rfl rfl (RV.move rfl) ?_
                    refine LW.noB rfl rfl rfl rfl (ne_beq (v := false) rfl rfl) ?_
                    refine LW.noB rfl rfl rfl rfl (ne_beq (v := false) rfl rfl) ?_
                    refine LW.noB rfl rfl rfl rfl (ne_beq (v := false) rfl rfl) ?_
                    refine LW.pure rfl rfl (RV.pickFB rfl rfl rfl) ?_
                    refine LW.pure rfl rfl (RV.move rfl) ?_
                    refine LW.noB rfl rfl rfl rfl (ne_beq (v := false) rfl rfl) ?_
                    refine LW.noB rfl rfl rfl rfl (ne_beq (v := false) rfl rfl) ?_
                    refine LW.noB rfl rfl rfl rfl (ne_beq (v := false) rfl rfl) ?_
                    refine LW.pure rfl rfl (RV.pickFB rfl rfl rfl) ?_
                    refine LW.pure rfl rfl (RV.move rfl) ?_
                    refine LW.noB rfl rfl rfl rfl (ne_beq (v := false) rfl rfl) ?_
                    refine LW.pure rfl rfl (RV.pickFB rfl rfl rfl) ?_
                    refine LW.pure rfl rfl (RV.assign rfl) ?_
                    refine LW.nil (hK15 _ _ ?_)
                    refine CW.ret ?_
                    obtain rfl := Option.some.inj F
                    refine ⟨_, (ResOK.one rfl), ?_⟩
                    refine ⟨(by first | rfl | simp), R0⟩
                ·
                  replace F := ite_n hp6 F
                  have hq6 := dec_f hp6
                  refine CW.region ?_
                  refine LW.pure rfl rfl (RV.move rfl) ?_
                  refine LW.pure rfl rfl (RV.eqi rfl rfl) ?_
                  refine LW.pure rfl rfl (RV.move rfl) ?_
                  refine LW.pureYB rfl rfl rfl rfl hq4 (RV.move rfl) ?_
                  refine LW.pureYB rfl rfl rfl rfl hq4 (RV.eqi rfl rfl) ?_
                  refine LW.pure rfl rfl (RV.pickTB rfl hq4 rfl) ?_
                  refine LW.pure rfl rfl (RV.move rfl) ?_
                  refine LW.pureYB rfl rfl rfl rfl hq5 (RV.move rfl) ?_
                  refine LW.pureYB rfl rfl rfl rfl hq5 (RV.eqi rfl rfl) ?_
                  refine LW.pure rfl rfl (RV.pickTB rfl hq5 rfl) ?_
                  refine LW.pure rfl rfl (RV.move rfl) ?_
                  refine LW.noB rfl rfl rfl rfl (ne_beq (v := false) hq6 rfl) ?_
                  refine LW.noB rfl rfl rfl rfl (ne_beq (v := false) hq6 rfl) ?_
                  refine LW.pure rfl rfl (RV.pickFB rfl hq6 rfl) ?_
                  refine LW.pure rfl rfl (RV.move rfl) ?_
                  refine LW.noB rfl rfl rfl rfl (ne_beq (v := false) rfl rfl) ?_
                  refine LW.noB rfl rfl rfl rfl (ne_beq (v := false) rfl rfl) ?_
                  refine LW.noB rfl rfl rfl rfl (ne_beq (v := false) rfl rfl) ?_
                  refine LW.pure rfl rfl (RV.pickFB rfl rfl rfl) ?_
                  refine LW.pure rfl rfl (RV.move rfl) ?_
                  refine LW.noB rfl rfl rfl rfl (ne_beq (v := false) rfl rfl) ?_
                  refine LW.noB rfl rfl rfl rfl (ne_beq (v := false) rfl rfl) ?_
                  refine LW.noB rfl rfl rfl rfl (ne_beq (v := false) rfl rfl) ?_
                  refine LW.pure rfl rfl (RV.pickFB rfl rfl rfl) ?_
                  refine LW.pure rfl rfl (RV.move rfl) ?_
                  refine LW.noB rfl rfl rfl rfl (ne_beq (v := false) rfl rfl) ?_
                  refine LW.noB rfl rfl rfl rfl (ne_beq (v := false) rfl rfl) ?_
                  refine LW.noB rfl rfl rfl rfl (ne_beq (v := false) rfl rfl) ?_
                  refine LW.pure rfl rfl (RV.pickFB rfl rfl rfl) ?_
                  refine LW.pure rfl rfl (RV.move rfl) ?_
                  refine LW.noB rfl rfl rfl rfl (ne_beq (v := false) rfl rfl) ?_
                  refine LW.pure rfl rfl (RV.pickFB rfl rfl rfl) ?_
                  refine LW.pure rfl rfl (RV.assign rfl) ?_
                  refine LW.nil (hK15 _ _ ?_)
                  refine CW.ret ?_
                  obtain rfl := Option.some.inj F
                  refine ⟨_, (ResOK.one rfl), ?_⟩
                  refine ⟨(by first | rfl | simp), R0⟩
              ·
                replace F := ite_n hp5 F
                have hq5 := dec_f hp5
                refine CW.region ?_
                refine LW.pure rfl rfl (RV.move rfl) ?_
                refine LW.pure rfl rfl (RV.eqi rfl rfl) ?_
                refine LW.pure rfl rfl (RV.move rfl) ?_
                refine LW.pureYB rfl rfl rfl rfl hq4 (RV.move rfl) ?_
                refine LW.pureYB rfl rfl rfl rfl hq4 (RV.eqi rfl rfl) ?_
                refine LW.pure rfl rfl (RV.pickTB rfl hq4 rfl) ?_
                refine LW.pure rfl rfl (RV.move rfl) ?_
                refine LW.noB rfl rfl rfl rfl (ne_beq (v := false) hq5 rfl) ?_
                refine LW.noB rfl rfl rfl rfl (ne_beq (v := false) hq5 rfl) ?_
                refine LW.pure rfl rfl (RV.pickFB rfl hq5 rfl) ?_
                refine LW.pure rfl rfl (RV.move rfl) ?_
                refine LW.noB rfl rfl rfl rfl (ne_beq (v := false) rfl rfl) ?_
                refine LW.noB rfl rfl rfl rfl (ne_beq (v := false) rfl rfl) ?_
                refine LW.pure rfl rfl (RV.pickFB rfl rfl rfl) ?_
                refine LW.pure rfl rfl (RV.move rfl) ?_
                refine LW.noB rfl rfl rfl rfl (ne_beq (v := false) rfl rfl) ?_
                refine LW.noB rfl rfl rfl rfl (ne_beq (v := false) rfl rfl) ?_
                refine LW.noB rfl rfl rfl rfl (ne_beq (v := false) rfl rfl) ?_
                refine LW.pure rfl rfl (RV.pickFB rfl rfl rfl) ?_
                refine LW.pure rfl rfl (RV.move rfl) ?_
                refine LW.noB rfl rfl rfl rfl (ne_beq (v := false) rfl rfl) ?_
                refine LW.noB rfl rfl rfl rfl (ne_beq (v := false) rfl rfl) ?_
                refine LW.noB rfl rfl rfl rfl (ne_beq (v := false) rfl rfl) ?_
                refine LW.pure rfl rfl (RV.pickFB rfl rfl rfl) ?_
                refine LW.pure rfl rfl (RV.move rfl) ?_
                refine LW.noB rfl rfl rfl rfl (ne_beq (v := false) rfl rfl) ?_
                refine LW.noB rfl rfl rfl rfl (ne_beq (v := false) rfl rfl) ?_
                refine LW.noB rfl rfl rfl rfl (ne_beq (v := false) rfl rfl) ?_
                refine LW.pure rfl rfl (RV.pickFB rfl rfl rfl) ?_
                refine LW.pure rfl rfl (RV.move rfl) ?_
                refine LW.noB rfl rfl rfl rfl (ne_beq (v := false) rfl rfl) ?_
                refine LW.pure rfl rfl (RV.pickFB rfl rfl rfl) ?_
                refine LW.pure rfl rfl (RV.assign rfl) ?_
                refine LW.nil (hK15 _ _ ?_)
                refine CW.ret ?_
                obtain rfl := Option.some.inj F
                refine ⟨_, (ResOK.one rfl), ?_⟩
                refine ⟨(by first | rfl | simp), R0⟩
            ·
              replace F := ite_n hp4 F
              have hq4 := dec_f hp4
              refine CW.region ?_
              refine LW.pure rfl rfl (RV.move rfl) ?_
              refine LW.pure rfl rfl (RV.eqi rfl rfl) ?_
              refine LW.pure rfl rfl (RV.move rfl) ?_
              refine LW.noB rfl rfl rfl rfl (ne_beq (v := false) hq4 rfl) ?_
              refine LW.noB rfl rfl rfl rfl (ne_beq (v := false) hq4 rfl) ?_
              refine LW.pure rfl rfl (RV.pickFB rfl hq4 rfl) ?_
              refine LW.pure rfl rfl (RV.move rfl) ?_
              refine LW.noB rfl rfl rfl rfl (ne_beq (v := false) rfl rfl) ?_
              refine LW.noB rfl rfl rfl rfl (ne_beq (v := false) rfl rfl) ?_
              refine LW.pure rfl rfl (RV.pickFB rfl rfl rfl) ?_
              refine LW.pure rfl rfl (RV.move rfl) ?_
              refine LW.noB rfl rfl rfl rfl (ne_beq (v := false) rfl rfl) ?_
              refine LW.noB rfl rfl rfl rfl (ne_beq (v := false) rfl rfl) ?_
              refine LW.pure rfl rfl (RV.pickFB rfl rfl rfl) ?_
              refine LW.pure rfl rfl (RV.move rfl) ?_
              refine LW.noB rfl rfl rfl rfl (ne_beq (v := false) rfl rfl) ?_
              refine LW.noB rfl rfl rfl rfl (ne_beq (v := false) rfl rfl) ?_
              refine LW.noB rfl rfl rfl rfl (ne_beq (v := false) rfl rfl) ?_
              refine LW.pure rfl rfl (RV.pickFB rfl rfl rfl) ?_
              refine LW.pure rfl rfl (RV.move rfl) ?_
              refine LW.noB rfl rfl rfl rfl (ne_beq (v := false) rfl rfl) ?_
              refine LW.noB rfl rfl rfl rfl (ne_beq (v := false) rfl rfl) ?_
              refine LW.noB rfl rfl rfl rfl (ne_beq (v := false) rfl rfl) ?_
              refine LW.pure rfl rfl (RV.pickFB rfl rfl rfl) ?_
              refine LW.pure rfl rfl (RV.move rfl) ?_
              refine LW.noB rfl rfl rfl rfl (ne_beq (v := false) rfl rfl) ?_
              refine LW.noB rfl rfl rfl rfl (ne_beq (v := false) rfl rfl) ?_
              refine LW.noB rfl rfl rfl rfl (ne_beq (v := false) rfl rfl) ?_
              refine LW.pure rfl rfl (RV.pickFB rfl rfl rfl) ?_
              refine LW.pure rfl rfl (RV.move rfl) ?_
              refine LW.noB rfl rfl rfl rfl (ne_beq (v := false) rfl rfl) ?_
              refine LW.pure rfl rfl (RV.pickFB rfl rfl rfl) ?_
              refine LW.pure rfl rfl (RV.assign rfl) ?_
              refine LW.nil (hK15 _ _ ?_)
              refine CW.ret ?_
              obtain rfl := Option.some.inj F
              refine ⟨_, (ResOK.one rfl), ?_⟩
              refine ⟨(by first | rfl | simp), R0⟩
        ·
          intro K16 hK16 jK33
          by_cases hp11 : r1.2 = 0
          ·
            replace F := ite_y hp11 F
            have hq11 := dec_t hp11
            refine CW.region ?_
            refine LW.pure rfl rfl (RV.move rfl) ?_
            refine LW.pure rfl rfl (RV.nei rfl rfl) ?_
            refine LW.pure rfl rfl (RV.move rfl) ?_
            refine LW.pureYB rfl rfl rfl rfl (not_f hq11) (RV.move rfl) ?_
            refine LW.pureYB rfl rfl rfl rfl (not_f hq11) (RV.lss rfl rfl) ?_
            refine LW.pure rfl rfl (RV.pickFB rfl (not_f hq11) rfl) ?_
            refine LW.nil (jK33 _ _ ⟨_, ?_, ⟨(decide (a1 < 0)), F, rfl, H⟩⟩)
            exact ⟨rfl, rfl, rfl, rfl, trivial⟩
          ·
            replace F := ite_n hp11 F
            have hq11 := dec_f hp11
            refine CW.region ?_
            refine LW.pure rfl rfl (RV.move rfl) ?_
            refine LW.pure rfl rfl (RV.nei rfl rfl) ?_
            refine LW.pure rfl rfl (RV.move rfl) ?_
            refine LW.noB rfl rfl rfl rfl (ne_beq (v := true) (not_t hq11) rfl) ?_
            refine LW.noB rfl rfl rfl rfl (ne_beq (v := true) (not_t hq11) rfl) ?_
            refine LW.pure rfl rfl (RV.pickTB rfl (not_t hq11) rfl) ?_
            refine LW.nil (jK33 _ _ ⟨_, ?_, ⟨true, F, rfl, H⟩⟩)
            exact ⟨rfl, rfl, rfl, rfl, trivial⟩
    ·
      intro K17 hK17 jK34
      obtain ⟨r13, hr13, F⟩ := bnd_some F
      by_cases hp12 : r13 = true
      ·
        replace F := ite_y hp12 F
        have hq12 : r13 = true := hp12
        refine CW.region ?_
        refine LW.pure rfl rfl (RV.loadA [.slice A20_0_worth r1.1.worth.length c20_0_worth] Tk24 rfl (H.blk 2 rfl).cells rfl rfl) ?_
        refine LW.pure rfl rfl (RV.loadA [.slice A22_0_worth r12.1.worth.length c22_0_worth] Tk24 rfl (H.blk 0 rfl).cells rfl rfl) ?_
        refine LW.go rfl rfl (OW.call Tc46 rfl (ref04_Same_ok (a0 := r1.1) (a1 := r12.1) (H.tab 3 rfl).sl2 (H.tab 1 rfl).sl2 hr13) ?_)
        rintro _ w21 ⟨rfl, E16⟩
        refine ⟨_, rfl, ?_⟩
        replace H := H.grow E16
        replace R0 := H.ext
        refine LW.pure rfl rfl (RV.not rfl) ?_
        refine LW.pure rfl rfl (RV.move rfl) ?_
        refine LW.pureYB rfl rfl rfl rfl (not_f hq12) (RV.move rfl) ?_
        refine LW.pureYB rfl rfl rfl rfl (not_f hq12) (RV.move rfl) ?_
        refine LW.pureYB rfl rfl rfl rfl (not_f hq12) (RV.nei rfl rfl) ?_
        refine LW.pure rfl rfl (RV.pickFB rfl (not_f hq12) rfl) ?_
        replace H := H.pick (L' := [.tab A20_0_worth c20_0_worth 25 hs20_0_worth 3 1 (encM encN r1.1.worth), .blk b1 24 [.slice A_a0_worth a0.worth.length c_a0_worth], .blk b2 24 [.slice A20_0_worth r1.1.worth.length c20_0_worth]]) [3, 4, 2] (by decide) rfl
        replace R0 := H.ext
        refine LW.nil (jK34 _ _ ⟨_, ?_, ⟨(!(decide (r1.2 = r12.2))), F, rfl, H⟩⟩)
        exact ⟨rfl, rfl, rfl, rfl, rfl, rfl, trivial⟩
      ·
        replace F := ite_n hp12 F
        have hq12 : r13 = false := raw_f hp12
        refine CW.region ?_
        refine LW.pure rfl rfl (RV.loadA [.slice A20_0_worth r1.1.worth.length c20_0_worth] Tk24 rfl (H.blk 2 rfl).cells rfl rfl) ?_
        refine LW.pure rfl rfl (RV.loadA [.slice A22_0_worth r12.1.worth.length c22_0_worth] Tk24 rfl (H.blk 0 rfl).cells rfl rfl) ?_
        refine LW.go rfl rfl (OW.call Tc46 rfl (ref04_Same_ok (a0 := r1.1) (a1 := r12.1) (H.tab 3 rfl).sl2 (H.tab 1 rfl).sl2 hr13) ?_)
        rintro _ w22 ⟨rfl, E17⟩
        refine ⟨_, rfl, ?_⟩
        replace H := H.grow E17
        replace R0 := H.ext
        refine LW.pure rfl rfl (RV.not rfl) ?_
        refine LW.pure rfl rfl (RV.move rfl) ?_
        refine LW.noB rfl rfl rfl rfl (ne_beq (v := true) (not_t hq12) rfl) ?_
        refine LW.noB rfl rfl rfl rfl (ne_beq (v := true) (not_t hq12) rfl) ?_
        refine LW.noB rfl rfl rfl rfl (ne_beq (v := true) (not_t hq12) rfl) ?_
        refine LW.pure rfl rfl (RV.pickTB rfl (not_t hq12) rfl) ?_
        replace H := H.pick (L' := [.tab A20_0_worth c20_0_worth 25 hs20_0_worth 3 1 (encM encN r1.1.worth), .blk b1 24 [.slice A_a0_worth a0.worth.length c_a0_worth], .blk b2 24 [.slice A20_0_worth r1.1.worth.length c20_0_worth]]) [3, 4, 2] (by decide) rfl
        replace R0 := H.ext
        refine LW.nil (jK34 _ _ ⟨_, ?_, ⟨true, F, rfl, H⟩⟩)
        exact ⟨rfl, rfl, rfl, rfl, rfl, rfl, trivial⟩

end Go.D4

set_option linter.unusedVariables false
namespace Go.D4
open Go.Tb




def cut_CheckOrder_1 (cap0 : Bog) (a0 : Int) : Option Bool :=
  gd (InR (((cap0.worth.length : Int)) - 1)) <|
  bnd (cut_from a0 ((0 : Int)) (((cap0.worth.length : Int)) - 1)) fun r1 =>
  some (!r1)
def cut_CheckOrder_k1 (a1 : List Int) (l1 : List Int) : Option ((List Int) × Int × Int) :=
  some (l1, (a1.length : Int), (0 : Int))
def cut_CheckOrder_B1 (a0 : Bog) (a1 : List Int) (rec1 : Int → (List Int) → Option ((List Int) × Int × Int)) (t28_1 : Int) (l2 : List Int) : Option ((List Int) × Int × Int) :=
  if t28_1 < ((a1.length : Int)) then
    ix a1 t28_1 fun x1 =>
    bnd (cut_open a0 l2 x1) fun r1 =>
    if r1 = true then
      ix l2 x1 fun x2 =>
      gd (InR (x2 + 1)) <|
      ix l2 x1 fun x3 =>
      gd (InR (t28_1 + 1)) <|
      rec1 ((t28_1 + 1)) (((l2.set (Int.toNat x1) (x2 + 1))))
    else
      some (([] : List Int), t28_1, (6 : Int))
  else
    cut_CheckOrder_k1 a1 l2
def cut_CheckOrder_L1 (a0 : Bog) (a1 : List Int) : Nat → Int → (List Int) → Option ((List Int) × Int × Int)
  | 0, _, _ => none
  | n_ + 1, t28_1, l2 => cut_CheckOrder_B1 a0 a1 (cut_CheckOrder_L1 a0 a1 n_) t28_1 l2
theorem cut_CheckOrder_L1_s {a0 : Bog} {a1 : List Int} {m_ : Nat} {t28_1 : Int} {l2 : List Int} {res : (List Int) × Int × Int} (h : cut_CheckOrder_L1 a0 a1 m_ t28_1 l2 = some res) : ∃ k, m_ = k + 1 ∧ cut_CheckOrder_B1 a0 a1 (cut_CheckOrder_L1 a0 a1 k) t28_1 l2 = some res := by
  cases m_ with
  | zero => cases h
  | succ k => exact ⟨k, rfl, h⟩
def cut_CheckOrder (a0 : Bog) (a1 : List Int) : Option ((List Int) × Int × Int) :=
  bnd (cut_Validate a0) fun r2 =>
  if r2 = 0 then
    if (24 : Int) < ((a1.length : Int)) then
      some (([] : List Int), (0 : Int), (3 : Int))
    else
      bnd (slices_ContainsFunc_int a1 ((fun x4 => cut_CheckOrder_1 a0 x4))) fun r3 =>
      if r3 = true then
        some (([] : List Int), (0 : Int), (4 : Int))
      else
        gd (0 ≤ (a0.worth.length : Int) ∧ ((a0.worth.length : Int)) ≤ 1000000) <|
        cut_CheckOrder_L1 a0 a1 FU (((0 : Int))) (((List.replicate (Int.toNat ((a0.worth.length : Int))) (0 : Int))))
  else
    some (([] : List Int), (0 : Int), r2)
def ref04_Has_k1 : Option Bool :=
  some false
def ref04_Has_B1 (a0 : List Int) (a1 : Int) (rec1 : Int → Option Bool) (t5_1 : Int) : Option Bool :=
  if t5_1 < ((a0.length : Int)) then
    ix a0 t5_1 fun x1 =>
    if x1 = a1 then
      some true
    else
      gd (InR (t5_1 + 1)) <|
      rec1 ((t5_1 + 1))
  else
    ref04_Has_k1
def ref04_Has_L1 (a0 : List Int) (a1 : Int) : Nat → Int → Option Bool
  | 0, _ => none
  | n_ + 1, t5_1 => ref04_Has_B1 a0 a1 (ref04_Has_L1 a0 a1 n_) t5_1
theorem ref04_Has_L1_s {a0 : List Int} {a1 : Int} {m_ : Nat} {t5_1 : Int} {res : Bool} (h : ref04_Has_L1 a0 a1 m_ t5_1 = some res) : ∃ k, m_ = k + 1 ∧ ref04_Has_B1 a0 a1 (ref04_Has_L1 a0 a1 k) t5_1 = some res := by
  cases m_ with
  | zero => cases h
  | succ k => exact ⟨k, rfl, h⟩
def ref04_Has (a0 : List Int) (a1 : Int) : Option Bool :=
  ref04_Has_L1 a0 a1 FU (((0 : Int)))
def ref04_CheckOrder_k1 (a1 : List Int) (l1 : List Int) : Option ((List Int) × Int × Int) :=
  some (l1, (a1.length : Int), (0 : Int))
def ref04_CheckOrder_B1 (a0 : Bog) (a1 : List Int) (rec1 : Int → (List Int) → Option ((List Int) × Int × Int)) (t10_1 : Int) (l2 : List Int) : Option ((List Int) × Int × Int) :=
  if t10_1 < ((a1.length : Int)) then
    bnd (ref04_open a0 l2) fun r1 =>
    ix a1 t10_1 fun x1 =>
    bnd (ref04_Has r1 x1) fun r2 =>
    if r2 = true then
      ix a1 t10_1 fun x2 =>
      ix l2 x2 fun x3 =>
      gd (InR (x3 + 1)) <|
      ix l2 x2 fun x4 =>
      gd (InR (t10_1 + 1)) <|
      rec1 ((t10_1 + 1)) (((l2.set (Int.toNat x2) (x3 + 1))))
    else
      some (([] : List Int), t10_1, (6 : Int))
  else
    ref04_CheckOrder_k1 a1 l2
def ref04_CheckOrder_L1 (a0 : Bog) (a1 : List Int) : Nat → Int → (List Int) → Option ((List Int) × Int × Int)
  | 0, _, _ => none
  | n_ + 1, t10_1, l2 => ref04_CheckOrder_B1 a0 a1 (ref04_CheckOrder_L1 a0 a1 n_) t10_1 l2
theorem ref04_CheckOrder_L1_s {a0 : Bog} {a1 : List Int} {m_ : Nat} {t10_1 : Int} {l2 : List Int} {res : (List Int) × Int × Int} (h : ref04_CheckOrder_L1 a0 a1 m_ t10_1 l2 = some res) : ∃ k, m_ = k + 1 ∧ ref04_CheckOrder_B1 a0 a1 (ref04_CheckOrder_L1 a0 a1 k) t10_1 l2 = some res := by
  cases m_ with
  | zero => cases h
  | succ k => exact ⟨k, rfl, h⟩
def ref04_CheckOrder_k2 (a0 : Bog) (a1 : List Int) : Option ((List Int) × Int × Int) :=
  gd (0 ≤ (a0.worth.length : Int) ∧ ((a0.worth.length : Int)) ≤ 1000000) <|
  ref04_CheckOrder_L1 a0 a1 FU (((0 : Int))) (((List.replicate (Int.toNat ((a0.worth.length : Int))) (0 : Int))))
def ref04_CheckOrder_k3 (t8_1 : Int) (rec2 : Int → Option ((List Int) × Int × Int)) (t39_1 : Bool) : Option ((List Int) × Int × Int) :=
  if t39_1 = true then
    some (([] : List Int), (0 : Int), (4 : Int))
  else
    gd (InR (t8_1 + 1)) <|
    rec2 ((t8_1 + 1))
def ref04_CheckOrder_B2 (a0 : Bog) (a1 : List Int) (rec2 : Int → Option ((List Int) × Int × Int)) (t8_1 : Int) : Option ((List Int) × Int × Int) :=
  if t8_1 < ((a1.length : Int)) then
    ix a1 t8_1 fun x5 =>
    if x5 < 0 then
      ref04_CheckOrder_k3 t8_1 rec2 true
    else
      ix a1 t8_1 fun x6 =>
      ref04_CheckOrder_k3 t8_1 rec2 ((decide (((a0.worth.length : Int)) ≤ x6)))
  else
    ref04_CheckOrder_k2 a0 a1
def ref04_CheckOrder_L2 (a0 : Bog) (a1 : List Int) : Nat → Int → Option ((List Int) × Int × Int)
  | 0, _ => none
  | n_ + 1, t8_1 => ref04_CheckOrder_B2 a0 a1 (ref04_CheckOrder_L2 a0 a1 n_) t8_1
theorem ref04_CheckOrder_L2_s {a0 : Bog} {a1 : List Int} {m_ : Nat} {t8_1 : Int} {res : (List Int) × Int × Int} (h : ref04_CheckOrder_L2 a0 a1 m_ t8_1 = some res) : ∃ k, m_ = k + 1 ∧ ref04_CheckOrder_B2 a0 a1 (ref04_CheckOrder_L2 a0 a1 k) t8_1 = some res := by
  cases m_ with
  | zero => cases h
  | succ k => exact ⟨k, rfl, h⟩
def ref04_CheckOrder (a0 : Bog) (a1 : List Int) : Option ((List Int) × Int × Int) :=
  bnd (ref04_Validate a0) fun r3 =>
  if r3 = 0 then
    if (24 : Int) < ((a1.length : Int)) then
      some (([] : List Int), (0 : Int), (3 : Int))
    else
      ref04_CheckOrder_L2 a0 a1 FU (((0 : Int)))
  else
    some (([] : List Int), (0 : Int), r3)
def law04_CutOrders (a0 : Bog) (a1 : List Int) : Option Bool :=
  bnd (law04_Long a0 (([a1] : List (List Int)))) fun r1 =>
  if r1 = true then
    bnd (law04_sane) fun r2 =>
    some r2
  else
    bnd (cut_CheckOrder a0 a1) fun r3 =>
    bnd (ref04_CheckOrder a0 a1) fun r4 =>
    bnd (ref04_SameInts r3.1 r4.1) fun r5 =>
    if r5 = true then
      if r3.2.1 = r4.2.1 then
        if r3.2.2 = r4.2.2 then
          bnd (law04_sane) fun r6 =>
          some r6
        else
          some false
      else
        some false
    else
      some false
end Go.D4

