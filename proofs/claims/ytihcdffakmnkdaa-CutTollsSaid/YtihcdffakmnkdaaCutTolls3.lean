/- Lemmas and walks that the proof of this claim uses: D4m9, Tb22, D4p1, D4p2, D4p3, D4p4, D4p5, D4p6, D4p7, D4p8, D4p9, D4pA, D4pB, D4pC, D4pD, D4pE, D4pF, D4pG, D4pH. -/
import Derived.Test.YtihcdffakmnkdaaCutTolls2
set_option linter.unusedVariables false
set_option linter.unusedSimpArgs false
namespace Go.D4
open Go.Tb Go.Proofs Go.RowKit
theorem Tc30 : callable Try.prog 30 = true := by kernel_rfl
theorem Tc32 : callable Try.prog 32 = true := by kernel_rfl
theorem Tc43 : callable Try.prog 43 = true := by kernel_rfl
theorem Tc46 : callable Try.prog 46 = true := by kernel_rfl
theorem Tc47 : callable Try.prog 47 = true := by kernel_rfl
theorem Tc48 : callable Try.prog 48 = true := by kernel_rfl
set_option maxRecDepth 20000 in
set_option maxHeartbeats 1000000 in
theorem ref04_Toll_ok {a0 : Bog} {a1 : Int} {A_a0_worth : Option Addr} {c_a0_worth : Nat} {w : World} {res : Bog × Int} (h_a0_worth : Sl2 w A_a0_worth c_a0_worth 1 encN a0.worth) (F : ref04_Toll a0 a1 = some res) : Calls Try.prog 48 #[.agg #[.slice A_a0_worth a0.worth.length c_a0_worth], .int .i64 a1] w (fun e w' => ∃ (A0_worth : Option Addr) (c0_worth : Nat) (hs0_worth : List (Option Addr × Nat)), e = .returned (.tuple #[.agg #[.slice A0_worth res.1.worth.length c0_worth], .int .i64 res.2]) ∧ Hp w w' [.tab A0_worth c0_worth 25 hs0_worth 3 1 (encM encN res.1.worth)]) := by
  refine calls_of_cw (args := [.agg #[.slice A_a0_worth a0.worth.length c_a0_worth], .int .i64 a1]) Try.func48 rfl rfl rfl rfl ?_
  have H := Hp.start w
  have R0 := H.ext
  unfold ref04_Toll at F
  refine CW.seq fun K1 hK1 => ?_
  refine CW.region ?_
  refine LW.go rfl rfl (OW.box rfl fun b1 w1 N1 => ?_)
  replace H := H.new N1 N1.blk
  replace R0 := H.ext
  refine LW.go rfl rfl (OW.alloc Tz24 fun b2 w2 N2 => ?_)
  replace H := H.new N2 N2.blk
  replace R0 := H.ext
  refine LW.pure rfl rfl (RV.assign rfl) ?_
  refine LW.nil (hK1 _ _ ?_)
  refine CW.seq fun K2 hK2 => ?_
  obtain ⟨r3, hr3, F⟩ := bnd_some F
  refine CW.region ?_
  refine LW.pure rfl rfl (RV.loadA [.slice A_a0_worth a0.worth.length c_a0_worth] Tk24 rfl (H.blk 1 rfl).cells rfl rfl) ?_
  refine LW.go rfl rfl (OW.call Tc26 rfl (ref04_Validate_ok (a0 := a0) (h_a0_worth.ext R0) hr3) ?_)
  rintro _ w3 ⟨rfl, E1⟩
  refine ⟨_, rfl, ?_⟩
  replace H := H.grow E1
  replace R0 := H.ext
  refine LW.pure rfl rfl (RV.assign rfl) ?_
  refine LW.nil (hK2 _ _ ?_)
  refine CW.seq fun K3 hK3 => ?_
  refine CW.seq fun K4 hK4 => ?_
  refine CW.region ?_
  refine LW.pure rfl rfl (RV.move rfl) ?_
  refine LW.pure rfl rfl (RV.nei rfl rfl) ?_
  refine LW.nil (hK4 _ _ ?_)
  by_cases hp1 : r3 = 0
  ·
    replace F := ite_y hp1 F
    have hq1 := dec_t hp1
    refine CW.condF rfl (not_f hq1) ?_
    refine CW.skip (hK3 _ _ ?_)
    refine CW.seq fun K5 hK5 => ?_
    refine CW.seqJ (fun ρ wl1 => (∃ (t21_1 : Bool), ref04_Toll_k3 a0 a1 t21_1 = some res ∧ ρ = [(1, .int .i64 a1), (2, .pointer (some (⟨b1, 0, none⟩))), (4, .pointer (some (⟨b2, 0, none⟩))), (5, .int .i64 0), (21, .bool t21_1)] ∧ Hp w wl1 [.blk b1 24 [.slice A_a0_worth a0.worth.length c_a0_worth], .blk b2 24 [.slice none 0 0]])) ?_ ?_
    ·
      rintro _ wl1 ⟨t21_1, F, rfl, H⟩
      have R0 := H.ext
      unfold ref04_Toll_k3 at F
      by_cases hp2 : t21_1 = true
      ·
        replace F := ite_y hp2 F
        have hq2 : t21_1 = true := hp2
        refine CW.condT rfl hq2 ?_
        refine CW.seq fun K6 hK6 => ?_
        refine CW.region ?_
        refine LW.pure rfl rfl (RV.build (vs := []) (cs := [.slice none 0 0]) rfl (fun _ => by kernel_rfl)) ?_
        refine LW.go rfl rfl (OW.store Tk24 rfl rfl (H.blk 1 rfl) (off := 0) (vs := [.slice none 0 0]) rfl rfl rfl rfl rfl fun w4 S1 => ?_)
        replace H : Hp w w4 [.blk b1 24 [.slice A_a0_worth a0.worth.length c_a0_worth], .blk b2 24 [.slice none 0 0]] := H.stored 1 rfl S1
        replace R0 := H.ext
        refine LW.pure rfl rfl (RV.assign rfl) ?_
        refine LW.nil (hK6 _ _ ?_)
        refine CW.ret ?_
        obtain rfl := Option.some.inj F
        refine ⟨_, (ResOK.two ⟨_, rfl, run_loadVar_agg Tk24 (H.blk 1 rfl).cells (us := [.slice none 0 0]) rfl rfl⟩ rfl), ?_⟩
        replace H := H.nilTab encN 25 3 1
        replace R0 := H.ext
        replace H := H.pick (L' := [.tab none 0 25 ([]) 3 1 (encM encN (([] : List (List Int))))]) [0] (by decide) rfl
        replace R0 := H.ext
        exact ⟨none, 0, ([]), (by first | rfl | (simp; done) | (simp; omega)), H⟩
      ·
        replace F := ite_n hp2 F
        have hq2 : t21_1 = false := raw_f hp2
        refine CW.condF rfl hq2 ?_
        refine CW.skip (hK5 _ _ ?_)
        refine CW.seq fun K7 hK7 => ?_
        obtain ⟨r2, hr2, F⟩ := bnd_some F
        refine CW.region ?_
        refine LW.pure rfl rfl (RV.loadA [.slice A_a0_worth a0.worth.length c_a0_worth] Tk24 rfl (H.blk 0 rfl).cells rfl rfl) ?_
        refine LW.go rfl rfl (OW.call Tc43 rfl (ref04_Copy_ok (a0 := a0) (h_a0_worth.ext R0) hr2) ?_)
        rintro _ w5 ⟨A7_0_worth, c7_0_worth, hs7_0_worth, rfl, E2⟩
        refine ⟨_, rfl, ?_⟩
        replace H : Hp w w5 [.tab A7_0_worth c7_0_worth 25 hs7_0_worth 3 1 (encM encN r2.worth), .blk b1 24 [.slice A_a0_worth a0.worth.length c_a0_worth], .blk b2 24 [.slice none 0 0]] := H.append E2
        replace R0 := H.ext
        refine LW.go rfl rfl (OW.alloc Tz24 fun b3 w6 N3 => ?_)
        replace H := H.new N3 N3.blk
        replace R0 := H.ext
        refine LW.go rfl rfl (OW.store Tk24 rfl rfl (H.blk 0 rfl) (off := 0) (vs := [.slice A7_0_worth r2.worth.length c7_0_worth]) rfl rfl rfl rfl rfl fun w7 S2 => ?_)
        replace H : Hp w w7 [.blk b3 24 [.slice A7_0_worth r2.worth.length c7_0_worth], .tab A7_0_worth c7_0_worth 25 hs7_0_worth 3 1 (encM encN r2.worth), .blk b1 24 [.slice A_a0_worth a0.worth.length c_a0_worth], .blk b2 24 [.slice none 0 0]] := H.stored 0 rfl S2
        replace R0 := H.ext
        refine LW.nil (hK7 _ _ ?_)
        refine CW.seqJ (fun ρ wl2 => (∃ (m1 : List (List Int)), ref04_Toll_k1 m1 = some res ∧ ρ = [(4, .pointer (some (⟨b2, 0, none⟩))), (5, .int .i64 0), (7, .pointer (some (⟨b3, 0, none⟩)))] ∧ Hp w wl2 [.tab A7_0_worth c7_0_worth 25 hs7_0_worth 3 1 (encM encN m1), .blk b2 24 [.slice none 0 0], .blk b3 24 [.slice A7_0_worth m1.length c7_0_worth]])) ?_ ?_
        ·
          rintro _ wl2 ⟨m1, F, rfl, H⟩
          have R0 := H.ext
          unfold ref04_Toll_k1 at F
          refine CW.seq fun K8 hK8 => ?_
          refine CW.seq fun K9 hK9 => ?_
          obtain ⟨r1, hr1, F⟩ := bnd_some F
          refine CW.region ?_
          refine LW.pure rfl rfl (RV.loadA [.slice A7_0_worth m1.length c7_0_worth] Tk24 rfl (H.blk 2 rfl).cells rfl rfl) ?_
          refine LW.go rfl rfl (OW.call Tc26 rfl (ref04_Validate_ok (a0 := (⟨m1⟩ : Bog)) (H.tab 0 rfl).sl2 hr1) ?_)
          rintro _ w8 ⟨rfl, E3⟩
          refine ⟨_, rfl, ?_⟩
          replace H := H.grow E3
          replace R0 := H.ext
          refine LW.pure rfl rfl (RV.nei rfl rfl) ?_
          refine LW.nil (hK9 _ _ ?_)
          by_cases hp3 : r1 = 0
          ·
            replace F := ite_y hp3 F
            have hq3 := dec_t hp3
            refine CW.condF rfl (not_f hq3) ?_
            refine CW.skip (hK8 _ _ ?_)
            refine CW.seq fun K10 hK10 => ?_
            refine CW.region ?_
            refine LW.pure rfl rfl (RV.loadA [.slice A7_0_worth m1.length c7_0_worth] Tk24 rfl (H.blk 2 rfl).cells rfl rfl) ?_
            refine LW.go rfl rfl (OW.store Tk24 rfl rfl (H.blk 1 rfl) (off := 0) (vs := [.slice A7_0_worth m1.length c7_0_worth]) rfl rfl rfl rfl rfl fun w9 S3 => ?_)
            replace H : Hp w w9 [.tab A7_0_worth c7_0_worth 25 hs7_0_worth 3 1 (encM encN m1), .blk b2 24 [.slice A7_0_worth m1.length c7_0_worth], .blk b3 24 [.slice A7_0_worth m1.length c7_0_worth]] := H.stored 1 rfl S3
            replace R0 := H.ext
            refine LW.pure rfl rfl (RV.assign rfl) ?_
            refine LW.nil (hK10 _ _ ?_)
            refine CW.ret ?_
            obtain rfl := Option.some.inj F
            refine ⟨_, (ResOK.two ⟨_, rfl, run_loadVar_agg Tk24 (H.blk 1 rfl).cells (us := [.slice A7_0_worth m1.length c7_0_worth]) rfl rfl⟩ rfl), ?_⟩
            replace H := H.pick (L' := [.tab A7_0_worth c7_0_worth 25 hs7_0_worth 3 1 (encM encN m1)]) [0] (by decide) rfl
            replace R0 := H.ext
            exact ⟨A7_0_worth, c7_0_worth, hs7_0_worth, (by first | rfl | (simp; done) | (simp; omega)), H⟩
          ·
            replace F := ite_n hp3 F
            have hq3 := dec_f hp3
            refine CW.condT rfl (not_t hq3) ?_
            refine CW.seq fun K11 hK11 => ?_
            refine CW.region ?_
            refine LW.pure rfl rfl (RV.build (vs := []) (cs := [.slice none 0 0]) rfl (fun _ => by kernel_rfl)) ?_
            refine LW.go rfl rfl (OW.store Tk24 rfl rfl (H.blk 1 rfl) (off := 0) (vs := [.slice none 0 0]) rfl rfl rfl rfl rfl fun w10 S4 => ?_)
            replace H : Hp w w10 [.tab A7_0_worth c7_0_worth 25 hs7_0_worth 3 1 (encM encN m1), .blk b2 24 [.slice none 0 0], .blk b3 24 [.slice A7_0_worth m1.length c7_0_worth]] := H.stored 1 rfl S4
            replace R0 := H.ext
            refine LW.pure rfl rfl (RV.assign rfl) ?_
            refine LW.nil (hK11 _ _ ?_)
            refine CW.ret ?_
            obtain rfl := Option.some.inj F
            refine ⟨_, (ResOK.two ⟨_, rfl, run_loadVar_agg Tk24 (H.blk 1 rfl).cells (us := [.slice none 0 0]) rfl rfl⟩ rfl), ?_⟩
            replace H := H.nilTab encN 25 3 1
            replace R0 := H.ext
            replace H := H.pick (L' := [.tab none 0 25 ([]) 3 1 (encM encN (([] : List (List Int))))]) [0] (by decide) rfl
            replace R0 := H.ext
            exact ⟨none, 0, ([]), (by first | rfl | (simp; done) | (simp; omega)), H⟩
        ·
          intro K12 hK12 jK236
          refine CW.seq fun K13 hK13 => ?_
          refine CW.region ?_
          refine LW.pure rfl rfl (RV.assign rfl) ?_
          refine LW.nil (hK13 _ _ ?_)
          refine CW.block ?_
          replace H := H.pick (L' := [.tab A7_0_worth c7_0_worth 25 hs7_0_worth 3 1 (encM encN r2.worth), .blk b2 24 [.slice none 0 0], .blk b3 24 [.slice A7_0_worth r2.worth.length c7_0_worth]]) [1, 3, 0] (by decide) rfl
          replace R0 := H.ext
          refine CW.loop (fun meas ρ wl3 => ∃ (t8_1 : Int) (m4 : List (List Int)), ref04_Toll_L2 a1 meas t8_1 m4 = some res ∧ ρ = [(1, .int .i64 a1), (4, .pointer (some (⟨b2, 0, none⟩))), (5, .int .i64 0), (7, .pointer (some (⟨b3, 0, none⟩))), (8, .int .i64 t8_1)] ∧ Hp w wl3 [.tab A7_0_worth c7_0_worth 25 hs7_0_worth 3 1 (encM encN m4), .blk b2 24 [.slice none 0 0], .blk b3 24 [.slice A7_0_worth m4.length c7_0_worth]]) FU ⟨_, ?_, ((0 : Int)), r2.worth, F, rfl, H⟩ ?_
          · exact ⟨rfl, rfl, rfl, rfl, rfl, trivial⟩
          rintro mk1 _ wl3 ⟨t8_1, m4, F, rfl, H⟩
          have R0 := H.ext
          replace F := ref04_Toll_L2_s F
          obtain ⟨mk1, rfl, F⟩ := F
          generalize hrec1 : ref04_Toll_L2 a1 mk1 = rec1 at F
          unfold ref04_Toll_B2 at F
          refine CW.seq fun K14 hK14 => ?_
          refine CW.seq fun K15 hK15 => ?_
          refine CW.region ?_
          refine LW.pure rfl rfl (RV.move rfl) ?_
          refine LW.pure rfl rfl (RV.fieldAddr Tf24_0 rfl) ?_
          refine LW.pure rfl rfl (RV.load1 Tk22 rfl ((H.blk 2 rfl).cells.off 0) rfl) ?_
          refine LW.pure rfl rfl (RV.len Ts22 rfl) ?_
          refine LW.pure rfl rfl (RV.lss rfl rfl) ?_
          refine LW.nil (hK15 _ _ ?_)
          by_cases hp4 : t8_1 < ((m4.length : Int))
          ·
            replace F := ite_y hp4 F
            have hq4 := dec_t hp4
            refine CW.condT rfl hq4 ?_
            refine CW.skip (hK14 _ _ ?_)
            refine CW.seqJ (fun ρ wl4 => (∃ (m2 : List (List Int)), ref04_Toll_k2 t8_1 rec1 m2 = some res ∧ ρ = [(1, .int .i64 a1), (4, .pointer (some (⟨b2, 0, none⟩))), (5, .int .i64 0), (7, .pointer (some (⟨b3, 0, none⟩))), (8, .int .i64 t8_1)] ∧ Hp w wl4 [.tab A7_0_worth c7_0_worth 25 hs7_0_worth 3 1 (encM encN m2), .blk b2 24 [.slice none 0 0], .blk b3 24 [.slice A7_0_worth m2.length c7_0_worth]])) ?_ ?_
            ·
              rintro _ wl4 ⟨m2, F, rfl, H⟩
              have R0 := H.ext
              unfold ref04_Toll_k2 at F
              obtain ⟨hg1, F⟩ := gd_some F
              refine CW.region ?_
              refine LW.pure rfl rfl (RV.move rfl) ?_
              refine LW.pure rfl rfl (RV.add rfl rfl hg1) ?_
              refine LW.pure rfl rfl (RV.assign rfl) ?_
              refine LW.nil ?_
              subst hrec1
              refine ⟨mk1, Nat.lt_succ_self _, _, ?_, (t8_1 + 1), m2, F, rfl, H⟩
              exact ⟨rfl, rfl, rfl, rfl, rfl, trivial⟩
            ·
              intro K16 hK16 jK296
              refine CW.block ?_
              refine CW.seq fun K17 hK17 => ?_
              refine CW.region ?_
              refine LW.pure rfl rfl (RV.assign rfl) ?_
              refine LW.nil (hK17 _ _ ?_)
              refine CW.block ?_
              refine CW.loop (fun meas ρ wl5 => ∃ (t9_1 : Int) (m3 : List (List Int)), ref04_Toll_L1 a1 t8_1 rec1 meas t9_1 m3 = some res ∧ ρ = [(1, .int .i64 a1), (4, .pointer (some (⟨b2, 0, none⟩))), (5, .int .i64 0), (7, .pointer (some (⟨b3, 0, none⟩))), (8, .int .i64 t8_1), (9, .int .i64 t9_1)] ∧ Hp w wl5 [.tab A7_0_worth c7_0_worth 25 hs7_0_worth 3 1 (encM encN m3), .blk b2 24 [.slice none 0 0], .blk b3 24 [.slice A7_0_worth m3.length c7_0_worth]]) FU ⟨_, ?_, ((0 : Int)), m4, F, rfl, H⟩ ?_
              · exact ⟨rfl, rfl, rfl, rfl, rfl, rfl, trivial⟩
              rintro mk2 _ wl5 ⟨t9_1, m3, F, rfl, H⟩
              have R0 := H.ext
              replace F := ref04_Toll_L1_s F
              obtain ⟨mk2, rfl, F⟩ := F
              generalize hrec2 : ref04_Toll_L1 a1 t8_1 rec1 mk2 = rec2 at F
              unfold ref04_Toll_B1 at F
              refine CW.seq fun K18 hK18 => ?_
              refine CW.seq fun K19 hK19 => ?_
              obtain ⟨x1, hbx1, hx1, F⟩ := ix_some F
              refine CW.region ?_
              refine LW.pure rfl rfl (RV.move rfl) ?_
              refine LW.pure rfl rfl (RV.fieldAddr Tf24_0 rfl) ?_
              refine LW.pure rfl rfl (RV.load1 Tk22 rfl ((H.blk 2 rfl).cells.off 0) rfl) ?_
              refine LW.pure rfl rfl (RV.move rfl) ?_
              obtain ⟨B1, e1, hh1⟩ := (H.tab 0 rfl).hd hx1
              refine LW.pure rfl rfl (RV.indexAddr Ts22 rfl rfl hbx1 ((H.tab 0 rfl).addr_ hx1)) ?_
              refine LW.pure rfl rfl (RV.load1 Tk25 rfl ((H.tab 0 rfl).cell hx1 hh1) rfl) ?_
              refine LW.pure rfl rfl (RV.len Ts25 rfl) ?_
              refine LW.pure rfl rfl (RV.lss rfl rfl) ?_
              refine LW.nil (hK19 _ _ ?_)
              by_cases hp5 : t9_1 < ((x1.length : Int))
              ·
                replace F := ite_y hp5 F
                have hq5 := dec_t hp5
                refine CW.condT rfl hq5 ?_
                refine CW.skip (hK18 _ _ ?_)
                refine CW.seq fun K20 hK20 => ?_
                refine CW.block ?_
                obtain ⟨x2, hbx2, hx2, F⟩ := ix_some F
                obtain ⟨x3, hbx3, hx3, F⟩ := ix_some F
                obtain ⟨hg2, F⟩ := gd_some F
                obtain ⟨x4, hbx4, hx4, F⟩ := ix_some F
                refine CW.region ?_
                refine LW.pure rfl rfl (RV.fieldAddr Tf24_0 rfl) ?_
                refine LW.pure rfl rfl (RV.load1 Tk22 rfl ((H.blk 2 rfl).cells.off 0) rfl) ?_
                refine LW.pure rfl rfl (RV.move rfl) ?_
                obtain ⟨B2, e2, hh2⟩ := (H.tab 0 rfl).hd hx2
                refine LW.pure rfl rfl (RV.indexAddr Ts22 rfl rfl hbx2 ((H.tab 0 rfl).addr_ hx2)) ?_
                refine LW.pure rfl rfl (RV.load1 Tk25 rfl ((H.tab 0 rfl).cell hx2 hh2) rfl) ?_
                refine LW.pure rfl rfl (RV.move rfl) ?_
                refine LW.pure rfl rfl (RV.indexAddr Ts25 rfl rfl hbx3 (((H.tab 0 rfl).rowO hx2 hh2).sl.addr_ hx3)) ?_
                refine LW.pure rfl rfl (RV.load1 Tk3 rfl (((H.tab 0 rfl).rowO hx2 hh2).sl.at_ hx3) rfl) ?_
                refine LW.pure rfl rfl (RV.move rfl) ?_
                refine LW.pure rfl rfl (RV.sub rfl rfl hg2) ?_
                refine LW.pure rfl rfl (RV.indexAddr Ts25 rfl rfl hbx4 (((H.tab 0 rfl).rowO hx2 hh2).sl.addr_ hx4)) ?_
                refine LW.go rfl rfl (OW.storeO (enc := encN) (vs := [.int .i64 (x3 - a1)]) 0 (x3 - a1) Tk3 rfl rfl ((H.tab 0 rfl).rowO hx2 hh2) (fun _ => rfl) rfl hx4 rfl rfl (by decide) rfl rfl fun w11 M1 O1 => ?_)
                replace H : Hp w w11 [.tab A7_0_worth c7_0_worth 25 hs7_0_worth 3 1 (encM encN ((m3.set (Int.toNat t8_1) (x2.set (Int.toNat t9_1) (x3 - a1))))), .blk b2 24 [.slice none 0 0], .blk b3 24 [.slice A7_0_worth m3.length c7_0_worth]] := H.tabRow 0 rfl hh2 hx2 (by simp) M1 O1
                replace R0 := H.ext
                have hrw1 : ((m3.set (Int.toNat t8_1) (x2.set (Int.toNat t9_1) (x3 - a1))))[Int.toNat t8_1]? = some (x2.set (Int.toNat t9_1) (x3 - a1)) := List.getElem?_set_self (lt_of_at hx2)
                refine LW.nil (hK20 _ _ ?_)
                obtain ⟨hg3, F⟩ := gd_some F
                refine CW.region ?_
                refine LW.pure rfl rfl (RV.move rfl) ?_
                refine LW.pure rfl rfl (RV.add rfl rfl hg3) ?_
                refine LW.pure rfl rfl (RV.assign rfl) ?_
                refine LW.nil ?_
                replace H := H.cast (L' := [.tab A7_0_worth c7_0_worth 25 hs7_0_worth 3 1 (encM encN ((m3.set (Int.toNat t8_1) (x2.set (Int.toNat t9_1) (x3 - a1))))), .blk b2 24 [.slice none 0 0], .blk b3 24 [.slice A7_0_worth (((m3.set (Int.toNat t8_1) (x2.set (Int.toNat t9_1) (x3 - a1)))).length) c7_0_worth]]) (by first | rfl | (simp only [List.length_set]; done) | simp)
                subst hrec2
                refine ⟨mk2, Nat.lt_succ_self _, _, ?_, (t9_1 + 1), ((m3.set (Int.toNat t8_1) (x2.set (Int.toNat t9_1) (x3 - a1)))), F, rfl, H⟩
                exact ⟨rfl, rfl, rfl, rfl, rfl, rfl, trivial⟩
              ·
                replace F := ite_n hp5 F
                have hq5 := dec_f hp5
                refine CW.condF rfl hq5 ?_
                refine CW.exit (jK296 _ _ ⟨_, ?_, ⟨m3, F, rfl, H⟩⟩)
                exact ⟨rfl, rfl, rfl, rfl, rfl, trivial⟩
          ·
            replace F := ite_n hp4 F
            have hq4 := dec_f hp4
            refine CW.condF rfl hq4 ?_
            refine CW.exit (jK236 _ _ ⟨_, ?_, ⟨m4, F, rfl, H⟩⟩)
            exact ⟨rfl, rfl, rfl, trivial⟩
    ·
      intro K21 hK21 jK307
      by_cases hp6 : (50 : Int) < a1
      ·
        replace F := ite_y hp6 F
        have hq6 := dec_t hp6
        refine CW.region ?_
        refine LW.pure rfl rfl (RV.move rfl) ?_
        refine LW.pure rfl rfl (RV.gtr rfl rfl) ?_
        refine LW.pure rfl rfl (RV.move rfl) ?_
        refine LW.noB rfl rfl rfl rfl (ne_beq (v := true) hq6 rfl) ?_
        refine LW.noB rfl rfl rfl rfl (ne_beq (v := true) hq6 rfl) ?_
        refine LW.pure rfl rfl (RV.pickTB rfl hq6 rfl) ?_
        replace H := H.pick (L' := [.blk b1 24 [.slice A_a0_worth a0.worth.length c_a0_worth], .blk b2 24 [.slice none 0 0]]) [1, 0] (by decide) rfl
        replace R0 := H.ext
        refine LW.nil (jK307 _ _ ⟨_, ?_, ⟨true, F, rfl, H⟩⟩)
        exact ⟨rfl, rfl, rfl, rfl, rfl, trivial⟩
      ·
        replace F := ite_n hp6 F
        have hq6 := dec_f hp6
        refine CW.region ?_
        refine LW.pure rfl rfl (RV.move rfl) ?_
        refine LW.pure rfl rfl (RV.gtr rfl rfl) ?_
        refine LW.pure rfl rfl (RV.move rfl) ?_
        refine LW.pureYB rfl rfl rfl rfl hq6 (RV.move rfl) ?_
        refine LW.pureYB rfl rfl rfl rfl hq6 (RV.lss rfl rfl) ?_
        refine LW.pure rfl rfl (RV.pickFB rfl hq6 rfl) ?_
        replace H := H.pick (L' := [.blk b1 24 [.slice A_a0_worth a0.worth.length c_a0_worth], .blk b2 24 [.slice none 0 0]]) [1, 0] (by decide) rfl
        replace R0 := H.ext
        refine LW.nil (jK307 _ _ ⟨_, ?_, ⟨(decide (a1 < (-50))), F, rfl, H⟩⟩)
        exact ⟨rfl, rfl, rfl, rfl, rfl, trivial⟩
  ·
    replace F := ite_n hp1 F
    have hq1 := dec_f hp1
    refine CW.condT rfl (not_t hq1) ?_
    refine CW.seq fun K22 hK22 => ?_
    refine CW.region ?_
    refine LW.pure rfl rfl (RV.build (vs := []) (cs := [.slice none 0 0]) rfl (fun _ => by kernel_rfl)) ?_
    refine LW.pure rfl rfl (RV.move rfl) ?_
    refine LW.go rfl rfl (OW.store Tk24 rfl rfl (H.blk 0 rfl) (off := 0) (vs := [.slice none 0 0]) rfl rfl rfl rfl rfl fun w12 S5 => ?_)
    replace H : Hp w w12 [.blk b2 24 [.slice none 0 0], .blk b1 24 [.slice A_a0_worth a0.worth.length c_a0_worth]] := H.stored 0 rfl S5
    replace R0 := H.ext
    refine LW.pure rfl rfl (RV.assign rfl) ?_
    refine LW.nil (hK22 _ _ ?_)
    refine CW.ret ?_
    obtain rfl := Option.some.inj F
    refine ⟨_, (ResOK.two ⟨_, rfl, run_loadVar_agg Tk24 (H.blk 0 rfl).cells (us := [.slice none 0 0]) rfl rfl⟩ rfl), ?_⟩
    replace H := H.nilTab encN 25 3 1
    replace R0 := H.ext
    replace H := H.pick (L' := [.tab none 0 25 ([]) 3 1 (encM encN (([] : List (List Int))))]) [0] (by decide) rfl
    replace R0 := H.ext
    exact ⟨none, 0, ([]), (by first | rfl | (simp; done) | (simp; omega)), H⟩
set_option maxRecDepth 20000 in
set_option maxHeartbeats 1000000 in
theorem ref04_Same_ok {a0 : Bog} {a1 : Bog} {A_a0_worth : Option Addr} {c_a0_worth : Nat} {A_a1_worth : Option Addr} {c_a1_worth : Nat} {w : World} {res : Bool} (h_a0_worth : Sl2 w A_a0_worth c_a0_worth 1 encN a0.worth) (h_a1_worth : Sl2 w A_a1_worth c_a1_worth 1 encN a1.worth) (F : ref04_Same a0 a1 = some res) : Calls Try.prog 46 #[.agg #[.slice A_a0_worth a0.worth.length c_a0_worth], .agg #[.slice A_a1_worth a1.worth.length c_a1_worth]] w (Rt w (.bool res)) := by
  refine calls_of_cw (args := [.agg #[.slice A_a0_worth a0.worth.length c_a0_worth], .agg #[.slice A_a1_worth a1.worth.length c_a1_worth]]) Try.func46 rfl rfl rfl rfl ?_
  have H := Hp.start w
  have R0 := H.ext
  unfold ref04_Same at F
  refine CW.seq fun K1 hK1 => ?_
  refine CW.region ?_
  refine LW.go rfl rfl (OW.box rfl fun b1 w1 N1 => ?_)
  replace H := H.new N1 N1.blk
  replace R0 := H.ext
  refine LW.go rfl rfl (OW.box rfl fun b2 w2 N2 => ?_)
  replace H := H.new N2 N2.blk
  replace R0 := H.ext
  refine LW.pure rfl rfl (RV.assign rfl) ?_
  refine LW.nil (hK1 _ _ ?_)
  refine CW.seq fun K2 hK2 => ?_
  refine CW.seq fun K3 hK3 => ?_
  refine CW.region ?_
  refine LW.pure rfl rfl (RV.fieldAddr Tf24_0 rfl) ?_
  refine LW.pure rfl rfl (RV.load1 Tk22 rfl ((H.blk 1 rfl).cells.off 0) rfl) ?_
  refine LW.pure rfl rfl (RV.len Ts22 rfl) ?_
  refine LW.pure rfl rfl (RV.fieldAddr Tf24_0 rfl) ?_
  refine LW.pure rfl rfl (RV.load1 Tk22 rfl ((H.blk 0 rfl).cells.off 0) rfl) ?_
  refine LW.pure rfl rfl (RV.len Ts22 rfl) ?_
  refine LW.pure rfl rfl (RV.nei rfl rfl) ?_
  refine LW.nil (hK3 _ _ ?_)
  by_cases hp1 : ((a0.worth.length : Int)) = ((a1.worth.length : Int))
  ·
    replace F := ite_y hp1 F
    have hq1 := dec_t hp1
    refine CW.condF rfl (not_f hq1) ?_
    refine CW.skip (hK2 _ _ ?_)
    refine CW.seqJ (fun ρ wl1 => (ref04_Same_k1 = some res ∧ ρ = [(4, .bool false)] ∧ Hp w wl1 [])) ?_ ?_
    ·
      rintro _ wl1 ⟨F, rfl, H⟩
      have R0 := H.ext
      unfold ref04_Same_k1 at F
      refine CW.seq fun K4 hK4 => ?_
      refine CW.region ?_
      refine LW.pure rfl rfl (RV.assign rfl) ?_
      refine LW.nil (hK4 _ _ ?_)
      refine CW.ret ?_
      obtain rfl := Option.some.inj F
      refine ⟨_, (ResOK.one rfl), ?_⟩
      refine ⟨(by first | rfl | simp), R0⟩
    ·
      intro K5 hK5 jK59
      refine CW.seq fun K6 hK6 => ?_
      refine CW.region ?_
      refine LW.pure rfl rfl (RV.assign rfl) ?_
      refine LW.nil (hK6 _ _ ?_)
      refine CW.block ?_
      replace H := H.pick (L' := [.blk b1 24 [.slice A_a0_worth a0.worth.length c_a0_worth], .blk b2 24 [.slice A_a1_worth a1.worth.length c_a1_worth]]) [1, 0] (by decide) rfl
      replace R0 := H.ext
      refine CW.loop (fun meas ρ wl2 => ∃ (t5_1 : Int), ref04_Same_L1 a0 a1 meas t5_1 = some res ∧ ρ = [(2, .pointer (some (⟨b1, 0, none⟩))), (3, .pointer (some (⟨b2, 0, none⟩))), (4, .bool false), (5, .int .i64 t5_1)] ∧ Hp w wl2 [.blk b1 24 [.slice A_a0_worth a0.worth.length c_a0_worth], .blk b2 24 [.slice A_a1_worth a1.worth.length c_a1_worth]]) FU ⟨_, ?_, ((0 : Int)), F, rfl, H⟩ ?_
      · exact ⟨rfl, rfl, rfl, rfl, trivial⟩
      rintro mk1 _ wl2 ⟨t5_1, F, rfl, H⟩
      have R0 := H.ext
      replace F := ref04_Same_L1_s F
      obtain ⟨mk1, rfl, F⟩ := F
      generalize hrec1 : ref04_Same_L1 a0 a1 mk1 = rec1 at F
      unfold ref04_Same_B1 at F
      refine CW.seq fun K7 hK7 => ?_
      refine CW.seq fun K8 hK8 => ?_
      refine CW.region ?_
      refine LW.pure rfl rfl (RV.move rfl) ?_
      refine LW.pure rfl rfl (RV.fieldAddr Tf24_0 rfl) ?_
      refine LW.pure rfl rfl (RV.load1 Tk22 rfl ((H.blk 0 rfl).cells.off 0) rfl) ?_
      refine LW.pure rfl rfl (RV.len Ts22 rfl) ?_
      refine LW.pure rfl rfl (RV.lss rfl rfl) ?_
      refine LW.nil (hK8 _ _ ?_)
      by_cases hp2 : t5_1 < ((a0.worth.length : Int))
      ·
        replace F := ite_y hp2 F
        have hq2 := dec_t hp2
        refine CW.condT rfl hq2 ?_
        refine CW.skip (hK7 _ _ ?_)
        refine CW.seq fun K9 hK9 => ?_
        refine CW.block ?_
        refine CW.seq fun K10 hK10 => ?_
        obtain ⟨x1, hbx1, hx1, F⟩ := ix_some F
        obtain ⟨x2, hbx2, hx2, F⟩ := ix_some F
        obtain ⟨r1, hr1, F⟩ := bnd_some F
        refine CW.draw [] (fun _ => True) (.cons 0 1 (.cons 1 1 (.cons 2 1 (.cons 3 1 (.cons 4 1 (.cons 5 1 (.cons 6 1 (.cons 7 1 (.cons 8 1 (.cons 9 1 (.cons 10 0 (.cons 11 1 .nil)))))))))))) mixed (by kernel_rfl) fun w3 E1 => ?_
        replace H := H.grow E1
        replace R0 := H.ext
        refine DW.fix rfl rfl rfl (fun _ EQ => RV.fieldAddr Tf24_0 rfl) ?_
        refine DW.fix rfl rfl rfl (fun _ EQ => RV.load1 Tk22 rfl (((H.grow EQ).blk 0 rfl).cells.off 0) rfl) ?_
        refine DW.fix rfl rfl rfl (fun _ EQ => RV.move rfl) ?_
        obtain ⟨A1, c1, hC1, hS1⟩ := h_a0_worth.at_ hx1
        refine DW.fix rfl rfl rfl (fun _ EQ => RV.indexAddr Ts22 rfl rfl hbx1 (h_a0_worth.addr hbx1)) ?_
        refine DW.fix rfl rfl rfl (fun _ EQ => RV.load1 Tk25 rfl (hC1.ext (R0.trans EQ)) rfl) ?_
        refine DW.fix rfl rfl rfl (fun _ EQ => RV.fieldAddr Tf24_0 rfl) ?_
        refine DW.fix rfl rfl rfl (fun _ EQ => RV.load1 Tk22 rfl (((H.grow EQ).blk 1 rfl).cells.off 0) rfl) ?_
        refine DW.fix rfl rfl rfl (fun _ EQ => RV.move rfl) ?_
        obtain ⟨A2, c2, hC2, hS2⟩ := h_a1_worth.at_ hx2
        refine DW.fix rfl rfl rfl (fun _ EQ => RV.indexAddr Ts22 rfl rfl hbx2 (h_a1_worth.addr hbx2)) ?_
        refine DW.fix rfl rfl rfl (fun _ EQ => RV.load1 Tk25 rfl (hC2.ext (R0.trans EQ)) rfl) ?_
        refine DW.sole rfl rfl rfl (OW.call Tc21 rfl (ref04_SameInts_ok (a0 := x1) (a1 := x2) (hS1.ext R0) (hS2.ext R0) hr1) ?_)
        rintro _ w4 ⟨rfl, E2⟩
        refine ⟨_, rfl, fun _ => E2, ModX.ext E2, ?_⟩
        replace H := H.grow E2
        replace R0 := H.ext
        refine DW.fix rfl rfl rfl (fun _ EQ => RV.not rfl) ?_
        refine DW.nil (hK10 _ _ ?_)
        by_cases hp3 : r1 = true
        ·
          replace F := ite_y hp3 F
          have hq3 : r1 = true := hp3
          refine CW.condF rfl (not_f hq3) ?_
          refine CW.skip (hK9 _ _ ?_)
          obtain ⟨hg1, F⟩ := gd_some F
          refine CW.region ?_
          refine LW.pure rfl rfl (RV.move rfl) ?_
          refine LW.pure rfl rfl (RV.add rfl rfl hg1) ?_
          refine LW.pure rfl rfl (RV.assign rfl) ?_
          refine LW.nil ?_
          subst hrec1
          refine ⟨mk1, Nat.lt_succ_self _, _, ?_, (t5_1 + 1), F, rfl, H⟩
          exact ⟨rfl, rfl, rfl, rfl, trivial⟩
        ·
          replace F := ite_n hp3 F
          have hq3 : r1 = false := raw_f hp3
          refine CW.condT rfl (not_t hq3) ?_
          refine CW.seq fun K11 hK11 => ?_
          refine CW.region ?_
          refine LW.pure rfl rfl (RV.assign rfl) ?_
          refine LW.nil (hK11 _ _ ?_)
          refine CW.ret ?_
          obtain rfl := Option.some.inj F
          refine ⟨_, (ResOK.one rfl), ?_⟩
          refine ⟨(by first | rfl | simp), R0⟩
      ·
        replace F := ite_n hp2 F
        have hq2 := dec_f hp2
        refine CW.condF rfl hq2 ?_
        replace H := H.pick (L' := []) [] (by decide) rfl
        replace R0 := H.ext
        refine CW.exit (jK59 _ _ ⟨_, ?_, ⟨F, rfl, H⟩⟩)
        exact ⟨rfl, trivial⟩
  ·
    replace F := ite_n hp1 F
    have hq1 := dec_f hp1
    refine CW.condT rfl (not_t hq1) ?_
    refine CW.seq fun K12 hK12 => ?_
    refine CW.region ?_
    refine LW.pure rfl rfl (RV.assign rfl) ?_
    refine LW.nil (hK12 _ _ ?_)
    refine CW.ret ?_
    obtain rfl := Option.some.inj F
    refine ⟨_, (ResOK.one rfl), ?_⟩
    refine ⟨(by first | rfl | simp), R0⟩
set_option maxRecDepth 20000 in
set_option maxHeartbeats 1000000 in
theorem cut_Deepest_ok {a0 : Bog} {A_a0_worth : Option Addr} {c_a0_worth : Nat} {w : World} {res : (List Int) × Int × Int} (h_a0_worth : Sl2 w A_a0_worth c_a0_worth 1 encN a0.worth) (F : cut_Deepest a0 = some res) : Calls Try.prog 30 #[.agg #[.slice A_a0_worth a0.worth.length c_a0_worth]] w (fun e w' => ∃ (A0 : Option Addr) (c0 : Nat), e = .returned (.tuple #[.slice A0 res.1.length c0, .int .i64 res.2.1, .int .i64 res.2.2]) ∧ Hp w w' [.own A0 c0 3 1 (List.map encN res.1)]) := by
  refine calls_of_cw (args := [.agg #[.slice A_a0_worth a0.worth.length c_a0_worth]]) Try.func30 rfl rfl rfl rfl ?_
  have H := Hp.start w
  have R0 := H.ext
  unfold cut_Deepest at F
  refine CW.seq fun K1 hK1 => ?_
  refine CW.region ?_
  refine LW.go rfl rfl (OW.box rfl fun b1 w1 N1 => ?_)
  replace H := H.new N1 N1.blk
  replace R0 := H.ext
  refine LW.pure rfl rfl (RV.assign rfl) ?_
  refine LW.pure rfl rfl (RV.assign rfl) ?_
  refine LW.pure rfl rfl (RV.assign rfl) ?_
  refine LW.nil (hK1 _ _ ?_)
  refine CW.seq fun K2 hK2 => ?_
  refine CW.seq fun K3 hK3 => ?_
  obtain ⟨r1, hr1, F⟩ := bnd_some F
  refine CW.region ?_
  refine LW.pure rfl rfl (RV.loadA [.slice A_a0_worth a0.worth.length c_a0_worth] Tk24 rfl (H.blk 0 rfl).cells rfl rfl) ?_
  refine LW.go rfl rfl (OW.call Tc25 rfl (cut_Validate_ok (a0 := a0) (h_a0_worth.ext R0) hr1) ?_)
  rintro _ w2 ⟨rfl, E1⟩
  refine ⟨_, rfl, ?_⟩
  replace H := H.grow E1
  replace R0 := H.ext
  refine LW.pure rfl rfl (RV.assign rfl) ?_
  refine LW.nil (hK3 _ _ ?_)
  refine CW.seq fun K4 hK4 => ?_
  refine CW.region ?_
  refine LW.pure rfl rfl (RV.move rfl) ?_
  refine LW.pure rfl rfl (RV.nei rfl rfl) ?_
  refine LW.nil (hK4 _ _ ?_)
  by_cases hp1 : r1 = 0
  ·
    replace F := ite_y hp1 F
    have hq1 := dec_t hp1
    refine CW.condF rfl (not_f hq1) ?_
    refine CW.skip (hK2 _ _ ?_)
    refine CW.seq fun K5 hK5 => ?_
    obtain ⟨r2, hr2, F⟩ := bnd_some F
    refine CW.region ?_
    refine LW.pure rfl rfl (RV.loadA [.slice A_a0_worth a0.worth.length c_a0_worth] Tk24 rfl (H.blk 0 rfl).cells rfl rfl) ?_
    refine LW.go rfl rfl (OW.call Tc73 rfl (cut_best_ok (a0 := a0) (a1 := cut_greater) (h_a0_worth.ext R0) (fun x0 x1 r hF w3 hE => CallsV.of Tc77 (cut_greater_ok (a0 := x0) (a1 := x1) hF)) hr2) ?_)
    rintro _ w4 ⟨A6_0, c6_0, rfl, E2⟩
    refine ⟨_, rfl, ?_⟩
    replace H : Hp w w4 [.own A6_0 c6_0 3 1 (List.map encN r2.1), .blk b1 24 [.slice A_a0_worth a0.worth.length c_a0_worth]] := H.append E2
    replace R0 := H.ext
    refine LW.pure rfl rfl (RV.move rfl) ?_
    refine LW.pure rfl rfl (RV.extract rfl rfl) ?_
    refine LW.pure rfl rfl (RV.extract rfl rfl) ?_
    refine LW.pure rfl rfl (RV.assign rfl) ?_
    refine LW.pure rfl rfl (RV.assign rfl) ?_
    refine LW.nil (hK5 _ _ ?_)
    refine CW.seq fun K6 hK6 => ?_
    refine CW.region ?_
    refine LW.pure rfl rfl (RV.move rfl) ?_
    refine LW.pure rfl rfl (RV.move rfl) ?_
    refine LW.pure rfl rfl (RV.assign rfl) ?_
    refine LW.pure rfl rfl (RV.assign rfl) ?_
    refine LW.pure rfl rfl (RV.assign rfl) ?_
    refine LW.nil (hK6 _ _ ?_)
    refine CW.ret ?_
    obtain rfl := Option.some.inj F
    refine ⟨_, (ResOK.three rfl rfl rfl), ?_⟩
    replace H := H.pick (L' := [.own A6_0 c6_0 3 1 (List.map encN r2.1)]) [0] (by decide) rfl
    replace R0 := H.ext
    exact ⟨A6_0, c6_0, (by first | rfl | (simp; done) | (simp; omega)), H⟩
  ·
    replace F := ite_n hp1 F
    have hq1 := dec_f hp1
    refine CW.condT rfl (not_t hq1) ?_
    refine CW.seq fun K7 hK7 => ?_
    refine CW.region ?_
    refine LW.pure rfl rfl (RV.move rfl) ?_
    refine LW.pure rfl rfl (RV.assign rfl) ?_
    refine LW.pure rfl rfl (RV.assign rfl) ?_
    refine LW.pure rfl rfl (RV.assign rfl) ?_
    refine LW.nil (hK7 _ _ ?_)
    refine CW.ret ?_
    obtain rfl := Option.some.inj F
    refine ⟨_, (ResOK.three rfl rfl rfl), ?_⟩
    replace H := H.nilOwn 3 1
    replace R0 := H.ext
    replace H := H.pick (L' := [.own none 0 3 1 (List.map encN (([] : List Int)))]) [0] (by decide) rfl
    replace R0 := H.ext
    exact ⟨none, 0, (by first | rfl | (simp; done) | (simp; omega)), H⟩
set_option maxRecDepth 20000 in
set_option maxHeartbeats 1000000 in
theorem ref04_LiesIn_ok {a0 : List Int} {a1 : List Int} {A_a0 : Option Addr} {c_a0 : Nat} {A_a1 : Option Addr} {c_a1 : Nat} {w : World} {res : Bool} (h_a0 : Sl w A_a0 c_a0 1 (a0.map encN)) (h_a1 : Sl w A_a1 c_a1 1 (a1.map encN)) (F : ref04_LiesIn a0 a1 = some res) : Calls Try.prog 32 #[.slice A_a0 a0.length c_a0, .slice A_a1 a1.length c_a1] w (Rt w (.bool res)) := by
  refine calls_of_cw (args := [.slice A_a0 a0.length c_a0, .slice A_a1 a1.length c_a1]) Try.func32 rfl rfl rfl rfl ?_
  have H := Hp.start w
  have R0 := H.ext
  unfold ref04_LiesIn at F
  refine CW.seq fun K1 hK1 => ?_
  refine CW.region ?_
  refine LW.pure rfl rfl (RV.assign rfl) ?_
  refine LW.nil (hK1 _ _ ?_)
  refine CW.seqJ (fun ρ wl1 => (ref04_LiesIn_k1 a0 a1 = some res ∧ ρ = [(0, .slice A_a0 a0.length c_a0), (1, .slice A_a1 a1.length c_a1), (4, .bool false)] ∧ Hp w wl1 [])) ?_ ?_
  ·
    rintro _ wl1 ⟨F, rfl, H⟩
    have R0 := H.ext
    unfold ref04_LiesIn_k1 at F
    refine CW.seq fun K2 hK2 => ?_
    refine CW.region ?_
    refine LW.pure rfl rfl (RV.move rfl) ?_
    refine LW.pure rfl rfl (RV.len Ts25 rfl) ?_
    refine LW.pure rfl rfl (RV.move rfl) ?_
    refine LW.pure rfl rfl (RV.len Ts25 rfl) ?_
    refine LW.pure rfl rfl (RV.eqi rfl rfl) ?_
    refine LW.pure rfl rfl (RV.assign rfl) ?_
    refine LW.nil (hK2 _ _ ?_)
    refine CW.ret ?_
    obtain rfl := Option.some.inj F
    refine ⟨_, (ResOK.one rfl), ?_⟩
    refine ⟨(by first | rfl | simp), R0⟩
  ·
    intro K3 hK3 jK54
    refine CW.seq fun K4 hK4 => ?_
    refine CW.region ?_
    refine LW.pure rfl rfl (RV.assign rfl) ?_
    refine LW.nil (hK4 _ _ ?_)
    refine CW.block ?_
    refine CW.loop (fun meas ρ wl2 => ∃ (t5_1 : Int), ref04_LiesIn_L1 a0 a1 meas t5_1 = some res ∧ ρ = [(0, .slice A_a0 a0.length c_a0), (1, .slice A_a1 a1.length c_a1), (4, .bool false), (5, .int .i64 t5_1)] ∧ Hp w wl2 []) FU ⟨_, ?_, ((0 : Int)), F, rfl, H⟩ ?_
    · exact ⟨rfl, rfl, rfl, rfl, trivial⟩
    rintro mk1 _ wl2 ⟨t5_1, F, rfl, H⟩
    have R0 := H.ext
    replace F := ref04_LiesIn_L1_s F
    obtain ⟨mk1, rfl, F⟩ := F
    generalize hrec1 : ref04_LiesIn_L1 a0 a1 mk1 = rec1 at F
    unfold ref04_LiesIn_B1 at F
    refine CW.seq fun K5 hK5 => ?_
    refine CW.seqJ (fun ρ wl3 => (∃ (t15_1 : Bool), ref04_LiesIn_k2 a0 a1 t5_1 rec1 t15_1 = some res ∧ ρ = [(0, .slice A_a0 a0.length c_a0), (1, .slice A_a1 a1.length c_a1), (4, .bool false), (5, .int .i64 t5_1), (15, .bool t15_1)] ∧ Hp w wl3 [])) ?_ ?_
    ·
      rintro _ wl3 ⟨t15_1, F, rfl, H⟩
      have R0 := H.ext
      unfold ref04_LiesIn_k2 at F
      by_cases hp1 : t15_1 = true
      ·
        replace F := ite_y hp1 F
        have hq1 : t15_1 = true := hp1
        refine CW.condT rfl hq1 ?_
        refine CW.skip (hK5 _ _ ?_)
        refine CW.seq fun K6 hK6 => ?_
        refine CW.block ?_
        refine CW.seq fun K7 hK7 => ?_
        obtain ⟨x1, hbx1, hx1, F⟩ := ix_some F
        obtain ⟨x2, hbx2, hx2, F⟩ := ix_some F
        refine CW.draw [] (fun _ => True) (.cons 0 1 (.cons 1 1 (.cons 2 1 (.cons 3 1 (.cons 4 1 (.cons 5 1 (.cons 6 1 (.cons 7 1 (.cons 8 1 .nil))))))))) mixed (by kernel_rfl) fun w1 E1 => ?_
        replace H := H.grow E1
        replace R0 := H.ext
        refine DW.fix rfl rfl rfl (fun _ EQ => RV.move rfl) ?_
        refine DW.fix rfl rfl rfl (fun _ EQ => RV.move rfl) ?_
        refine DW.fix rfl rfl rfl (fun _ EQ => RV.indexAddr Ts25 rfl rfl hbx1 (h_a0.addr_ hx1)) ?_
        refine DW.fix rfl rfl rfl (fun _ EQ => RV.load1 Tk3 rfl ((h_a0.at_ hx1).ext (R0.trans EQ)) rfl) ?_
        refine DW.fix rfl rfl rfl (fun _ EQ => RV.move rfl) ?_
        refine DW.fix rfl rfl rfl (fun _ EQ => RV.move rfl) ?_
        refine DW.fix rfl rfl rfl (fun _ EQ => RV.indexAddr Ts25 rfl rfl hbx2 (h_a1.addr_ hx2)) ?_
        refine DW.fix rfl rfl rfl (fun _ EQ => RV.load1 Tk3 rfl ((h_a1.at_ hx2).ext (R0.trans EQ)) rfl) ?_
        refine DW.fix rfl rfl rfl (fun _ EQ => RV.gtr rfl rfl) ?_
        refine DW.nil (hK7 _ _ ?_)
        by_cases hp2 : x2 < x1
        ·
          replace F := ite_y hp2 F
          have hq2 := dec_t hp2
          refine CW.condT rfl hq2 ?_
          refine CW.seq fun K8 hK8 => ?_
          refine CW.region ?_
          refine LW.pure rfl rfl (RV.assign rfl) ?_
          refine LW.nil (hK8 _ _ ?_)
          refine CW.ret ?_
          obtain rfl := Option.some.inj F
          refine ⟨_, (ResOK.one rfl), ?_⟩
          refine ⟨(by first | rfl | simp), R0⟩
        ·
          replace F := ite_n hp2 F
          have hq2 := dec_f hp2
          refine CW.condF rfl hq2 ?_
          refine CW.skip (hK6 _ _ ?_)
          obtain ⟨hg1, F⟩ := gd_some F
          refine CW.region ?_
          refine LW.pure rfl rfl (RV.move rfl) ?_
          refine LW.pure rfl rfl (RV.add rfl rfl hg1) ?_
          refine LW.pure rfl rfl (RV.assign rfl) ?_
          refine LW.nil ?_
          subst hrec1
          refine ⟨mk1, Nat.lt_succ_self _, _, ?_, (t5_1 + 1), F, rfl, H⟩
          exact ⟨rfl, rfl, rfl, rfl, trivial⟩
      ·
        replace F := ite_n hp1 F
        have hq1 : t15_1 = false := raw_f hp1
        refine CW.condF rfl hq1 ?_
        refine CW.exit (jK54 _ _ ⟨_, ?_, ⟨F, rfl, H⟩⟩)
        exact ⟨rfl, rfl, rfl, trivial⟩
    ·
      intro K9 hK9 jK70
      by_cases hp3 : t5_1 < ((a0.length : Int))
      ·
        replace F := ite_y hp3 F
        have hq3 := dec_t hp3
        refine CW.region ?_
        refine LW.pure rfl rfl (RV.move rfl) ?_
        refine LW.pure rfl rfl (RV.move rfl) ?_
        refine LW.pure rfl rfl (RV.len Ts25 rfl) ?_
        refine LW.pure rfl rfl (RV.lss rfl rfl) ?_
        refine LW.pure rfl rfl (RV.move rfl) ?_
        refine LW.pureYB rfl rfl rfl rfl hq3 (RV.move rfl) ?_
        refine LW.pureYB rfl rfl rfl rfl hq3 (RV.move rfl) ?_
        refine LW.pureYB rfl rfl rfl rfl hq3 (RV.len Ts25 rfl) ?_
        refine LW.pureYB rfl rfl rfl rfl hq3 (RV.lss rfl rfl) ?_
        refine LW.pure rfl rfl (RV.pickTB rfl hq3 rfl) ?_
        refine LW.nil (jK70 _ _ ⟨_, ?_, ⟨(decide (t5_1 < ((a1.length : Int)))), F, rfl, H⟩⟩)
        exact ⟨rfl, rfl, rfl, rfl, rfl, trivial⟩
      ·
        replace F := ite_n hp3 F
        have hq3 := dec_f hp3
        refine CW.region ?_
        refine LW.pure rfl rfl (RV.move rfl) ?_
        refine LW.pure rfl rfl (RV.move rfl) ?_
        refine LW.pure rfl rfl (RV.len Ts25 rfl) ?_
        refine LW.pure rfl rfl (RV.lss rfl rfl) ?_
        refine LW.pure rfl rfl (RV.move rfl) ?_
        refine LW.noB rfl rfl rfl rfl (ne_beq (v := false) hq3 rfl) ?_
        refine LW.noB rfl rfl rfl rfl (ne_beq (v := false) hq3 rfl) ?_
        refine LW.noB rfl rfl rfl rfl (ne_beq (v := false) hq3 rfl) ?_
        refine LW.noB rfl rfl rfl rfl (ne_beq (v := false) hq3 rfl) ?_
        refine LW.pure rfl rfl (RV.pickFB rfl hq3 rfl) ?_
        refine LW.nil (jK70 _ _ ⟨_, ?_, ⟨false, F, rfl, H⟩⟩)
        exact ⟨rfl, rfl, rfl, rfl, rfl, trivial⟩
set_option maxRecDepth 20000 in
set_option maxHeartbeats 1000000 in
theorem law04_CutTolls_ok {a0 : Bog} {a1 : Int} {A_a0_worth : Option Addr} {c_a0_worth : Nat} {w : World} {res : Bool} (h_a0_worth : Sl2 w A_a0_worth c_a0_worth 1 encN a0.worth) (F : law04_CutTolls a0 a1 = some res) : Calls Try.prog 10 #[.agg #[.slice A_a0_worth a0.worth.length c_a0_worth], .int .i64 a1] w (Rt w (.bool res)) := by
  refine calls_of_cw (args := [.agg #[.slice A_a0_worth a0.worth.length c_a0_worth], .int .i64 a1]) Try.func10 rfl rfl rfl rfl ?_
  have H := Hp.start w
  have R0 := H.ext
  unfold law04_CutTolls at F
  refine CW.seq fun K1 hK1 => ?_
  refine CW.region ?_
  refine LW.go rfl rfl (OW.box rfl fun b1 w1 N1 => ?_)
  replace H := H.new N1 N1.blk
  replace R0 := H.ext
  refine LW.pure rfl rfl (RV.assign rfl) ?_
  refine LW.nil (hK1 _ _ ?_)
  refine CW.seq fun K2 hK2 => ?_
  refine CW.seq fun K3 hK3 => ?_
  obtain ⟨r10, hr10, F⟩ := bnd_some F
  refine CW.region ?_
  refine LW.pure rfl rfl (RV.loadA [.slice A_a0_worth a0.worth.length c_a0_worth] Tk24 rfl (H.blk 0 rfl).cells rfl rfl) ?_
  refine LW.go rfl rfl (OW.call Tc17 rfl (law04_Long_ok (a0 := a0) (a1 := ([] : List (List Int))) (h_a0_worth.ext R0) (Sl2.nil_) hr10) ?_)
  rintro _ w2 ⟨rfl, E1⟩
  refine ⟨_, rfl, ?_⟩
  replace H := H.grow E1
  replace R0 := H.ext
  refine LW.nil (hK3 _ _ ?_)
  by_cases hp1 : r10 = true
  ·
    replace F := ite_y hp1 F
    have hq1 : r10 = true := hp1
    refine CW.condT rfl hq1 ?_
    refine CW.seq fun K4 hK4 => ?_
    obtain ⟨r11, hr11, F⟩ := bnd_some F
    refine CW.region ?_
    refine LW.go rfl rfl (OW.call Tc18 rfl (law04_sane_ok hr11) ?_)
    rintro _ w3 ⟨rfl, E2⟩
    refine ⟨_, rfl, ?_⟩
    replace H := H.grow E2
    replace R0 := H.ext
    refine LW.pure rfl rfl (RV.assign rfl) ?_
    refine LW.nil (hK4 _ _ ?_)
    refine CW.ret ?_
    obtain rfl := Option.some.inj F
    refine ⟨_, (ResOK.one rfl), ?_⟩
    refine ⟨(by first | rfl | simp), R0⟩
  ·
    replace F := ite_n hp1 F
    have hq1 : r10 = false := raw_f hp1
    refine CW.condF rfl hq1 ?_
    refine CW.skip (hK2 _ _ ?_)
    refine CW.seq fun K5 hK5 => ?_
    obtain ⟨r1, hr1, F⟩ := bnd_some F
    refine CW.region ?_
    refine LW.pure rfl rfl (RV.loadA [.slice A_a0_worth a0.worth.length c_a0_worth] Tk24 rfl (H.blk 0 rfl).cells rfl rfl) ?_
    refine LW.pure rfl rfl (RV.move rfl) ?_
    refine LW.go rfl rfl (OW.call Tc47 rfl (cut_Toll_ok (a0 := a0) (a1 := a1) (h_a0_worth.ext R0) hr1) ?_)
    rintro _ w4 ⟨A20_0_worth, c20_0_worth, hs20_0_worth, rfl, E3⟩
    refine ⟨_, rfl, ?_⟩
    replace H : Hp w w4 [.tab A20_0_worth c20_0_worth 25 hs20_0_worth 3 1 (encM encN r1.1.worth), .blk b1 24 [.slice A_a0_worth a0.worth.length c_a0_worth]] := H.append E3
    replace R0 := H.ext
    refine LW.pure rfl rfl (RV.move rfl) ?_
    refine LW.pure rfl rfl (RV.extract rfl rfl) ?_
    refine LW.pure rfl rfl (RV.extract rfl rfl) ?_
    refine LW.go rfl rfl (OW.alloc Tz24 fun b2 w5 N2 => ?_)
    replace H := H.new N2 N2.blk
    replace R0 := H.ext
    refine LW.go rfl rfl (OW.store Tk24 rfl rfl (H.blk 0 rfl) (off := 0) (vs := [.slice A20_0_worth r1.1.worth.length c20_0_worth]) rfl rfl rfl rfl rfl fun w6 S1 => ?_)
    replace H : Hp w w6 [.blk b2 24 [.slice A20_0_worth r1.1.worth.length c20_0_worth], .tab A20_0_worth c20_0_worth 25 hs20_0_worth 3 1 (encM encN r1.1.worth), .blk b1 24 [.slice A_a0_worth a0.worth.length c_a0_worth]] := H.stored 0 rfl S1
    replace R0 := H.ext
    refine LW.pure rfl rfl (RV.assign rfl) ?_
    refine LW.nil (hK5 _ _ ?_)
    refine CW.seq fun K6 hK6 => ?_
    obtain ⟨r12, hr12, F⟩ := bnd_some F
    refine CW.region ?_
    refine LW.pure rfl rfl (RV.loadA [.slice A_a0_worth a0.worth.length c_a0_worth] Tk24 rfl (H.blk 2 rfl).cells rfl rfl) ?_
    refine LW.pure rfl rfl (RV.move rfl) ?_
    refine LW.go rfl rfl (OW.call Tc48 rfl (ref04_Toll_ok (a0 := a0) (a1 := a1) (h_a0_worth.ext R0) hr12) ?_)
    rintro _ w7 ⟨A22_0_worth, c22_0_worth, hs22_0_worth, rfl, E4⟩
    refine ⟨_, rfl, ?_⟩
    replace H : Hp w w7 [.tab A22_0_worth c22_0_worth 25 hs22_0_worth 3 1 (encM encN r12.1.worth), .blk b2 24 [.slice A20_0_worth r1.1.worth.length c20_0_worth], .tab A20_0_worth c20_0_worth 25 hs20_0_worth 3 1 (encM encN r1.1.worth), .blk b1 24 [.slice A_a0_worth a0.worth.length c_a0_worth]] := H.append E4
    replace R0 := H.ext
    refine LW.pure rfl rfl (RV.move rfl) ?_
    refine LW.pure rfl rfl (RV.extract rfl rfl) ?_
    refine LW.pure rfl rfl (RV.extract rfl rfl) ?_
    refine LW.go rfl rfl (OW.alloc Tz24 fun b3 w8 N3 => ?_)
    replace H := H.new N3 N3.blk
    replace R0 := H.ext
    refine LW.go rfl rfl (OW.store Tk24 rfl rfl (H.blk 0 rfl) (off := 0) (vs := [.slice A22_0_worth r12.1.worth.length c22_0_worth]) rfl rfl rfl rfl rfl fun w9 S2 => ?_)
    replace H : Hp w w9 [.blk b3 24 [.slice A22_0_worth r12.1.worth.length c22_0_worth], .tab A22_0_worth c22_0_worth 25 hs22_0_worth 3 1 (encM encN r12.1.worth), .blk b2 24 [.slice A20_0_worth r1.1.worth.length c20_0_worth], .tab A20_0_worth c20_0_worth 25 hs20_0_worth 3 1 (encM encN r1.1.worth), .blk b1 24 [.slice A_a0_worth a0.worth.length c_a0_worth]] := H.stored 0 rfl S2
    replace R0 := H.ext
    refine LW.pure rfl rfl (RV.assign rfl) ?_
    refine LW.nil (hK6 _ _ ?_)
    refine CW.seq fun K7 hK7 => ?_
    refine CW.seqJ (fun ρ wl1 => (∃ (t44_1 : Bool), law04_CutTolls_k2 a0 a1 r1 t44_1 = some res ∧ ρ = [(1, .int .i64 a1), (2, .pointer (some (⟨b1, 0, none⟩))), (4, .bool false), (5, .pointer (some (⟨b2, 0, none⟩))), (6, .int .i64 r1.2), (44, .bool t44_1)] ∧ Hp w wl1 [.tab A20_0_worth c20_0_worth 25 hs20_0_worth 3 1 (encM encN r1.1.worth), .blk b1 24 [.slice A_a0_worth a0.worth.length c_a0_worth], .blk b2 24 [.slice A20_0_worth r1.1.worth.length c20_0_worth]])) ?_ ?_
    ·
      rintro _ wl1 ⟨t44_1, F, rfl, H⟩
      have R0 := H.ext
      unfold law04_CutTolls_k2 at F
      by_cases hp2 : t44_1 = true
      ·
        replace F := ite_y hp2 F
        have hq2 : t44_1 = true := hp2
        refine CW.condT rfl hq2 ?_
        refine CW.seq fun K8 hK8 => ?_
        refine CW.region ?_
        refine LW.pure rfl rfl (RV.assign rfl) ?_
        refine LW.nil (hK8 _ _ ?_)
        refine CW.ret ?_
        obtain rfl := Option.some.inj F
        refine ⟨_, (ResOK.one rfl), ?_⟩
        refine ⟨(by first | rfl | simp), R0⟩
      ·
        replace F := ite_n hp2 F
        have hq2 : t44_1 = false := raw_f hp2
        refine CW.condF rfl hq2 ?_
        refine CW.skip (hK7 _ _ ?_)
        refine CW.seq fun K9 hK9 => ?_
        refine CW.seqJ (fun ρ wl2 => (∃ (t50_1 : Bool), law04_CutTolls_k1 a0 r1 t50_1 = some res ∧ ρ = [(2, .pointer (some (⟨b1, 0, none⟩))), (4, .bool false), (5, .pointer (some (⟨b2, 0, none⟩))), (50, .bool t50_1)] ∧ Hp w wl2 [.tab A20_0_worth c20_0_worth 25 hs20_0_worth 3 1 (encM encN r1.1.worth), .blk b1 24 [.slice A_a0_worth a0.worth.length c_a0_worth], .blk b2 24 [.slice A20_0_worth r1.1.worth.length c20_0_worth]])) ?_ ?_
        ·
          rintro _ wl2 ⟨t50_1, F, rfl, H⟩
          have R0 := H.ext
          unfold law04_CutTolls_k1 at F
          by_cases hp3 : t50_1 = true
          ·
            replace F := ite_y hp3 F
            have hq3 : t50_1 = true := hp3
            refine CW.condT rfl hq3 ?_
            refine CW.seq fun K10 hK10 => ?_
            obtain ⟨r2, hr2, F⟩ := bnd_some F
            refine CW.region ?_
            refine LW.go rfl rfl (OW.call Tc18 rfl (law04_sane_ok hr2) ?_)
            rintro _ w10 ⟨rfl, E5⟩
            refine ⟨_, rfl, ?_⟩
            replace H := H.grow E5
            replace R0 := H.ext
            refine LW.pure rfl rfl (RV.assign rfl) ?_
            refine LW.nil (hK10 _ _ ?_)
            refine CW.ret ?_
            obtain rfl := Option.some.inj F
            refine ⟨_, (ResOK.one rfl), ?_⟩
            refine ⟨(by first | rfl | simp), R0⟩
          ·
            replace F := ite_n hp3 F
            have hq3 : t50_1 = false := raw_f hp3
            refine CW.condF rfl hq3 ?_
            refine CW.skip (hK9 _ _ ?_)
            refine CW.seq fun K11 hK11 => ?_
            obtain ⟨r3, hr3, F⟩ := bnd_some F
            refine CW.region ?_
            refine LW.pure rfl rfl (RV.loadA [.slice A20_0_worth r1.1.worth.length c20_0_worth] Tk24 rfl (H.blk 2 rfl).cells rfl rfl) ?_
            refine LW.go rfl rfl (OW.call Tc28 rfl (cut_Best_ok (a0 := r1.1) (H.tab 0 rfl).sl2 hr3) ?_)
            rintro _ w11 ⟨A27_0, c27_0, rfl, E6⟩
            refine ⟨_, rfl, ?_⟩
            replace H : Hp w w11 [.own A27_0 c27_0 3 1 (List.map encN r3.1), .tab A20_0_worth c20_0_worth 25 hs20_0_worth 3 1 (encM encN r1.1.worth), .blk b1 24 [.slice A_a0_worth a0.worth.length c_a0_worth], .blk b2 24 [.slice A20_0_worth r1.1.worth.length c20_0_worth]] := H.append E6
            replace R0 := H.ext
            refine LW.pure rfl rfl (RV.move rfl) ?_
            refine LW.pure rfl rfl (RV.extract rfl rfl) ?_
            refine LW.pure rfl rfl (RV.extract rfl rfl) ?_
            refine LW.pure rfl rfl (RV.extract rfl rfl) ?_
            refine LW.pure rfl rfl (RV.assign rfl) ?_
            refine LW.pure rfl rfl (RV.assign rfl) ?_
            refine LW.pure rfl rfl (RV.assign rfl) ?_
            refine LW.nil (hK11 _ _ ?_)
            refine CW.seq fun K12 hK12 => ?_
            obtain ⟨r4, hr4, F⟩ := bnd_some F
            refine CW.region ?_
            refine LW.pure rfl rfl (RV.loadA [.slice A_a0_worth a0.worth.length c_a0_worth] Tk24 rfl (H.blk 2 rfl).cells rfl rfl) ?_
            refine LW.go rfl rfl (OW.call Tc28 rfl (cut_Best_ok (a0 := a0) (h_a0_worth.ext R0) hr4) ?_)
            rintro _ w12 ⟨A29_0, c29_0, rfl, E7⟩
            refine ⟨_, rfl, ?_⟩
            replace H : Hp w w12 [.own A29_0 c29_0 3 1 (List.map encN r4.1), .own A27_0 c27_0 3 1 (List.map encN r3.1), .tab A20_0_worth c20_0_worth 25 hs20_0_worth 3 1 (encM encN r1.1.worth), .blk b1 24 [.slice A_a0_worth a0.worth.length c_a0_worth], .blk b2 24 [.slice A20_0_worth r1.1.worth.length c20_0_worth]] := H.append E7
            replace R0 := H.ext
            refine LW.pure rfl rfl (RV.move rfl) ?_
            refine LW.pure rfl rfl (RV.extract rfl rfl) ?_
            refine LW.pure rfl rfl (RV.extract rfl rfl) ?_
            refine LW.pure rfl rfl (RV.extract rfl rfl) ?_
            refine LW.pure rfl rfl (RV.assign rfl) ?_
            refine LW.pure rfl rfl (RV.assign rfl) ?_
            refine LW.pure rfl rfl (RV.assign rfl) ?_
            refine LW.nil (hK12 _ _ ?_)
            refine CW.seq fun K13 hK13 => ?_
            obtain ⟨r5, hr5, F⟩ := bnd_some F
            refine CW.region ?_
            refine LW.pure rfl rfl (RV.loadA [.slice A20_0_worth r1.1.worth.length c20_0_worth] Tk24 rfl (H.blk 4 rfl).cells rfl rfl) ?_
            refine LW.go rfl rfl (OW.call Tc30 rfl (cut_Deepest_ok (a0 := r1.1) (H.tab 2 rfl).sl2 hr5) ?_)
            rintro _ w13 ⟨A31_0, c31_0, rfl, E8⟩
            refine ⟨_, rfl, ?_⟩
            replace H : Hp w w13 [.own A31_0 c31_0 3 1 (List.map encN r5.1), .own A29_0 c29_0 3 1 (List.map encN r4.1), .own A27_0 c27_0 3 1 (List.map encN r3.1), .tab A20_0_worth c20_0_worth 25 hs20_0_worth 3 1 (encM encN r1.1.worth), .blk b1 24 [.slice A_a0_worth a0.worth.length c_a0_worth], .blk b2 24 [.slice A20_0_worth r1.1.worth.length c20_0_worth]] := H.append E8
            replace R0 := H.ext
            refine LW.pure rfl rfl (RV.move rfl) ?_
            refine LW.pure rfl rfl (RV.extract rfl rfl) ?_
            refine LW.pure rfl rfl (RV.extract rfl rfl) ?_
            refine LW.pure rfl rfl (RV.extract rfl rfl) ?_
            refine LW.pure rfl rfl (RV.assign rfl) ?_
            refine LW.pure rfl rfl (RV.assign rfl) ?_
            refine LW.pure rfl rfl (RV.assign rfl) ?_
            refine LW.nil (hK13 _ _ ?_)
            refine CW.seq fun K14 hK14 => ?_
            obtain ⟨r6, hr6, F⟩ := bnd_some F
            refine CW.region ?_
            refine LW.pure rfl rfl (RV.loadA [.slice A_a0_worth a0.worth.length c_a0_worth] Tk24 rfl (H.blk 4 rfl).cells rfl rfl) ?_
            refine LW.go rfl rfl (OW.call Tc30 rfl (cut_Deepest_ok (a0 := a0) (h_a0_worth.ext R0) hr6) ?_)
            rintro _ w14 ⟨A33_0, c33_0, rfl, E9⟩
            refine ⟨_, rfl, ?_⟩
            replace H : Hp w w14 [.own A33_0 c33_0 3 1 (List.map encN r6.1), .own A31_0 c31_0 3 1 (List.map encN r5.1), .own A29_0 c29_0 3 1 (List.map encN r4.1), .own A27_0 c27_0 3 1 (List.map encN r3.1), .tab A20_0_worth c20_0_worth 25 hs20_0_worth 3 1 (encM encN r1.1.worth), .blk b1 24 [.slice A_a0_worth a0.worth.length c_a0_worth], .blk b2 24 [.slice A20_0_worth r1.1.worth.length c20_0_worth]] := H.append E9
            replace R0 := H.ext
            refine LW.pure rfl rfl (RV.move rfl) ?_
            refine LW.pure rfl rfl (RV.extract rfl rfl) ?_
            refine LW.pure rfl rfl (RV.extract rfl rfl) ?_
            refine LW.pure rfl rfl (RV.extract rfl rfl) ?_
            refine LW.pure rfl rfl (RV.assign rfl) ?_
            refine LW.pure rfl rfl (RV.assign rfl) ?_
            refine LW.pure rfl rfl (RV.assign rfl) ?_
            refine LW.nil (hK14 _ _ ?_)
            refine CW.seq fun K15 hK15 => ?_
            by_cases hp4 : r3.2.2 = 0
            ·
              replace F := ite_y hp4 F
              have hq4 := dec_t hp4
              by_cases hp5 : r4.2.2 = 0
              ·
                replace F := ite_y hp5 F
                have hq5 := dec_t hp5
                by_cases hp6 : r5.2.2 = 0
                ·
                  replace F := ite_y hp6 F
                  have hq6 := dec_t hp6
                  by_cases hp7 : r6.2.2 = 0
                  ·
                    replace F := ite_y hp7 F
                    have hq7 := dec_t hp7
                    by_cases hp8 : r3.2.1 ≤ r4.2.1
                    ·
                      replace F := ite_y hp8 F
                      have hq8 := dec_t hp8
                      obtain ⟨r7, hr7, F⟩ := bnd_some F
                      by_cases hp9 : r7 = true
                      ·
                        replace F := ite_y hp9 F
                        have hq9 : r7 = true := hp9
                        obtain ⟨r8, hr8, F⟩ := bnd_some F
                        by_cases hp10 : r8 = true
                        ·
                          replace F := ite_y hp10 F
                          have hq10 : r8 = true := hp10
                          obtain ⟨r9, hr9, F⟩ := bnd_some F
                          refine CW.region ?_
                          refine LW.pure rfl rfl (RV.move rfl) ?_
                          refine LW.pure rfl rfl (RV.eqi rfl rfl) ?_
                          refine LW.pure rfl rfl (RV.move rfl) ?_
                          refine LW.pureYB rfl rfl rfl rfl hq4 (RV.move rfl) ?_
                          refine LW.pureYB rfl rfl rfl rfl hq4 (RV.eqi rfl rfl) ?_
                          refine LW.pure rfl rfl (RV.pickTB rfl hq4 rfl) ?_
                          refine LW.pure rfl rfl (RV.move rfl) ?_
                          refine LW.pureYB rfl rfl rfl rfl hq5 (RV.move rfl) ?_
                          refine LW.pureYB rfl rfl rfl rfl hq5 (RV.eqi rfl rfl) ?_
                          refine LW.pure rfl rfl (RV.pickTB rfl hq5 rfl) ?_
                          refine LW.pure rfl rfl (RV.move rfl) ?_
                          refine LW.pureYB rfl rfl rfl rfl hq6 (RV.move rfl) ?_
                          refine LW.pureYB rfl rfl rfl rfl hq6 (RV.eqi rfl rfl) ?_
                          refine LW.pure rfl rfl (RV.pickTB rfl hq6 rfl) ?_
                          refine LW.pure rfl rfl (RV.move rfl) ?_
                          refine LW.pureYB rfl rfl rfl rfl hq7 (RV.move rfl) ?_
                          refine LW.pureYB rfl rfl rfl rfl hq7 (RV.move rfl) ?_
                          refine LW.pureYB rfl rfl rfl rfl hq7 (RV.leq rfl rfl) ?_
                          refine LW.pure rfl rfl (RV.pickTB rfl hq7 rfl) ?_
                          refine LW.pure rfl rfl (RV.move rfl) ?_
                          refine LW.pureYB rfl rfl rfl rfl hq8 (RV.move rfl) ?_
                          refine LW.pureYB rfl rfl rfl rfl hq8 (RV.move rfl) ?_
                          refine LW.yesB rfl rfl rfl rfl hq8 (OW.call Tc32 rfl (ref04_LiesIn_ok (a0 := r3.1) (a1 := r4.1) (H.own 3 rfl).sl (H.own 2 rfl).sl hr7) ?_)
                          rintro _ w15 ⟨rfl, E10⟩
                          refine ⟨_, rfl, ?_⟩
                          replace H := H.grow E10
                          replace R0 := H.ext
                          refine LW.pure rfl rfl (RV.pickTB rfl hq8 rfl) ?_
                          refine LW.pure rfl rfl (RV.move rfl) ?_
                          refine LW.pureYB rfl rfl rfl rfl hq9 (RV.move rfl) ?_
                          refine LW.pureYB rfl rfl rfl rfl hq9 (RV.move rfl) ?_
                          refine LW.yesB rfl rfl rfl rfl hq9 (OW.call Tc32 rfl (ref04_LiesIn_ok (a0 := r5.1) (a1 := r6.1) (H.own 1 rfl).sl (H.own 0 rfl).sl hr8) ?_)
                          rintro _ w16 ⟨rfl, E11⟩
                          refine ⟨_, rfl, ?_⟩
                          replace H := H.grow E11
                          replace R0 := H.ext
                          refine LW.pure rfl rfl (RV.pickTB rfl hq9 rfl) ?_
                          refine LW.pure rfl rfl (RV.move rfl) ?_
                          refine LW.yesB rfl rfl rfl rfl hq10 (OW.call Tc18 rfl (law04_sane_ok hr9) ?_)
                          rintro _ w17 ⟨rfl, E12⟩
                          refine ⟨_, rfl, ?_⟩
                          replace H := H.grow E12
                          replace R0 := H.ext
                          refine LW.pure rfl rfl (RV.pickTB rfl hq10 rfl) ?_
                          refine LW.pure rfl rfl (RV.assign rfl) ?_
                          refine LW.nil (hK15 _ _ ?_)
                          refine CW.ret ?_
                          obtain rfl := Option.some.inj F
                          refine ⟨_, (ResOK.one rfl), ?_⟩
                          refine ⟨(by first | rfl | simp), R0⟩
                        ·
                          replace F := ite_n hp10 F
                          have hq10 : r8 = false := raw_f hp10
                          refine CW.region ?_
                          refine LW.pure rfl rfl (RV.move rfl) ?_
                          refine LW.pure rfl rfl (RV.eqi rfl rfl) ?_
                          refine LW.pure rfl rfl (RV.move rfl) ?_
                          refine LW.pureYB rfl rfl rfl rfl hq4 (RV.move rfl) ?_
                          refine LW.pureYB rfl rfl rfl rfl hq4 (RV.eqi rfl rfl) ?_
                          refine LW.pure rfl rfl (RV.pickTB rfl hq4 rfl) ?_
                          refine LW.pure rfl rfl (RV.move rfl) ?_
                          refine LW.pureYB rfl rfl rfl rfl hq5 (RV.move rfl) ?_
                          refine LW.pureYB rfl rfl rfl rfl hq5 (RV.eqi rfl rfl) ?_
                          refine LW.pure rfl rfl (RV.pickTB rfl hq5 rfl) ?_
                          refine LW.pure rfl rfl (RV.move rfl) ?_
                          refine LW.pureYB rfl rfl rfl rfl hq6 (RV.move rfl) ?_
                          refine LW.pureYB rfl rfl rfl rfl hq6 (RV.eqi rfl rfl) ?_
                          refine LW.pure rfl rfl (RV.pickTB rfl hq6 rfl) ?_
                          refine LW.pure rfl rfl (RV.move rfl) ?_
                          refine LW.pureYB rfl rfl rfl rfl hq7 (RV.move rfl) ?_
                          refine LW.pureYB rfl rfl rfl rfl hq7 (RV.move rfl) ?_
                          refine LW.pureYB rfl rfl rfl rfl hq7 (RV.leq rfl rfl) ?_
                          refine LW.pure rfl rfl (RV.pickTB rfl hq7 rfl) ?_
                          refine LW.pure rfl rfl (RV.move rfl) ?_
                          refine LW.pureYB rfl rfl rfl rfl hq8 (RV.move rfl) ?_
                          refine LW.pureYB rfl rfl rfl rfl hq8 (RV.move rfl) ?_
                          refine LW.yesB rfl rfl rfl rfl hq8 (OW.call Tc32 rfl (ref04_LiesIn_ok (a0 := r3.1) (a1 := r4.1) (H.own 3 rfl).sl (H.own 2 rfl).sl hr7) ?_)
                          rintro _ w18 ⟨rfl, E13⟩
                          refine ⟨_, rfl, ?_⟩
                          replace H := H.grow E13
                          replace R0 := H.ext
                          refine LW.pure rfl rfl (RV.pickTB rfl hq8 rfl) ?_
                          refine LW.pure rfl rfl (RV.move rfl) ?_
                          refine LW.pureYB rfl rfl rfl rfl hq9 (RV.move rfl) ?_
                          refine LW.pureYB rfl rfl rfl rfl hq9 (RV.move rfl) ?_
                          refine LW.yesB rfl rfl rfl rfl hq9 (OW.call Tc32 rfl (ref04_LiesIn_ok (a0 := r5.1) (a1 := r6.1) (H.own 1 rfl).sl (H.own 0 rfl).sl hr8) ?_)
                          rintro _ w19 ⟨rfl, E14⟩
                          refine ⟨_, rfl, ?_⟩
                          replace H := H.grow E14
                          replace R0 := H.ext
                          refine LW.pure rfl rfl (RV.pickTB rfl hq9 rfl) ?_
                          refine LW.pure rfl rfl (RV.move rfl) ?_
                          refine LW.noB rfl rfl rfl rfl (ne_beq (v := false) hq10 rfl) ?_
                          refine LW.pure rfl rfl (RV.pickFB rfl hq10 rfl) ?_
                          refine LW.pure rfl rfl (RV.assign rfl) ?_
                          refine LW.nil (hK15 _ _ ?_)
                          refine CW.ret ?_
                          obtain rfl := Option.some.inj F
                          refine ⟨_, (ResOK.one rfl), ?_⟩
                          refine ⟨(by first | rfl | simp), R0⟩
                      ·
                        replace F := ite_n hp9 F
                        have hq9 : r7 = false := raw_f hp9
                        refine CW.region ?_
                        refine LW.pure rfl rfl (RV.move rfl) ?_
                        refine LW.pure rfl rfl (RV.eqi rfl rfl) ?_
                        refine LW.pure rfl rfl (RV.move rfl) ?_
                        refine LW.pureYB rfl rfl rfl rfl hq4 (RV.move rfl) ?_
                        refine LW.pureYB rfl rfl rfl rfl hq4 (RV.eqi rfl rfl) ?_
                        refine LW.pure rfl rfl (RV.pickTB rfl hq4 rfl) ?_
                        refine LW.pure rfl rfl (RV.move rfl) ?_
                        refine LW.pureYB rfl rfl rfl rfl hq5 (RV.move rfl) ?_
                        refine LW.pureYB rfl rfl rfl rfl hq5 (RV.eqi rfl rfl) ?_
                        refine LW.pure rfl rfl (RV.pickTB rfl hq5 rfl) ?_
                        refine LW.pure rfl rfl (RV.move rfl) ?_
                        refine LW.pureYB rfl rfl rfl rfl hq6 (RV.move rfl) ?_
                        refine LW.pureYB rfl rfl rfl rfl hq6 (RV.eqi rfl rfl) ?_
                        refine LW.pure rfl rfl (RV.pickTB rfl hq6 rfl) ?_
                        refine LW.pure rfl rfl (RV.move rfl) ?_
                        refine LW.pureYB rfl rfl rfl rfl hq7 (RV.move rfl) ?_
                        refine LW.pureYB rfl rfl rfl rfl hq7 (RV.move rfl) ?_
                        refine LW.pureYB rfl rfl rfl rfl hq7 (RV.leq rfl rfl) ?_
                        refine LW.pure rfl rfl (RV.pickTB rfl hq7 rfl) ?_
                        refine LW.pure rfl rfl (RV.move rfl) ?_
                        refine LW.pureYB rfl rfl rfl rfl hq8 (RV.move rfl) ?_
                        refine LW.pureYB rfl rfl rfl rfl hq8 (RV.move rfl) ?_
                        refine LW.yesB rfl rfl rfl rfl hq8 (OW.call Tc32 rfl (ref04_LiesIn_ok (a0 := r3.1) (a1 := r4.1) (H.own 3 rfl).sl (H.own 2 rfl).sl hr7) ?_)
                        rintro _ w20 ⟨rfl, E15⟩
                        refine ⟨_, rfl, ?_⟩
                        replace H := H.grow E15
                        replace R0 := H.ext
                        refine LW.pure rfl rfl (RV.pickTB rfl hq8 rfl) ?_
                        refine LW.pure rfl rfl (RV.move rfl) ?_
                        refine LW.noB rfl rfl rfl rfl (ne_beq (v := false) hq9 rfl) ?_
                        refine LW.noB rfl rfl rfl rfl (ne_beq (v := false) hq9 rfl) ?_
                        refine LW.noB rfl rfl rfl rfl (ne_beq (v := false) hq9 rfl) ?_
                        refine LW.pure rfl rfl (RV.pickFB rfl hq9 rfl) ?_
                        refine LW.pure rfl rfl (RV.move rfl) ?_
                        refine LW.noB rfl rfl rfl rfl (ne_beq (v := false) rfl rfl) ?_
                        refine LW.pure rfl rfl (RV.pickFB rfl rfl rfl) ?_
                        refine LW.pure rfl rfl (RV.assign rfl) ?_
                        refine LW.nil (hK15 _ _ ?_)
                        refine CW.ret ?_
                        obtain rfl := Option.some.inj F
                        refine ⟨_, (ResOK.one rfl), ?_⟩
                        refine ⟨(by first | rfl | simp), R0⟩
                    ·
                      replace F := ite_n hp8 F
                      have hq8 := dec_f hp8
                      refine CW.region ?_
                      refine LW.pure rfl rfl (RV.move rfl) ?_
                      refine LW.pure rfl rfl (RV.eqi rfl rfl) ?_
                      refine LW.pure rfl rfl (RV.move rfl) ?_
                      refine LW.pureYB rfl rfl rfl rfl hq4 (RV.move rfl) ?_
                      refine LW.pureYB rfl rfl rfl rfl hq4 (RV.eqi rfl rfl) ?_
                      refine LW.pure rfl rfl (RV.pickTB rfl hq4 rfl) ?_
                      refine LW.pure rfl rfl (RV.move rfl) ?_
                      refine LW.pureYB rfl rfl rfl rfl hq5 (RV.move rfl) ?_
                      refine LW.pureYB rfl rfl rfl rfl hq5 (RV.eqi rfl rfl) ?_
                      refine LW.pure rfl rfl (RV.pickTB rfl hq5 rfl) ?_
                      refine LW.pure rfl rfl (RV.move rfl) ?_
                      refine LW.pureYB rfl rfl rfl rfl hq6 (RV.move rfl) ?_
                      refine LW.pureYB rfl rfl rfl rfl hq6 (RV.eqi rfl rfl) ?_
                      refine LW.pure rfl rfl (RV.pickTB rfl hq6 rfl) ?_
                      refine LW.pure rfl rfl (RV.move rfl) ?_
                      refine LW.pureYB rfl rfl rfl rfl hq7 (RV.move rfl) ?_
                      refine LW.pureYB rfl rfl rfl rfl hq7 (RV.move rfl) ?_
                      refine LW.pureYB rfl rfl rfl rfl hq7 (RV.leq rfl rfl) ?_
                      refine LW.pure rfl rfl (RV.pickTB rfl hq7 rfl) ?_
                      refine LW.pure rfl rfl (RV.move rfl) ?_
                      refine LW.noB rfl rfl rfl rfl (ne_beq (v := false) hq8 rfl) ?_
                      refine LW.noB rfl rfl rfl rfl (ne_beq (v := false) hq8 rfl) ?_
                      refine LW.noB rfl rfl rfl rfl (ne_beq (v := false) hq8 rfl) ?_
                      refine LW.pure rfl rfl (RV.pickFB rfl hq8 rfl) ?_
                      refine LW.pure rfl rfl (RV.move rfl) ?_
                      refine LW.noB rfl rfl rfl rfl (ne_beq (v := false) rfl rfl) ?_
                      refine LW.noB rfl rfl rfl rfl (ne_beq (v := false) rfl rfl) ?_
                      refine LW.noB rfl rfl rfl rfl (ne_beq (v := false) rfl rfl) ?_
                      refine LW.pure rfl rfl (RV.pickFB rfl rfl rfl) ?_
                      refine LW.pure rfl rfl (RV.move rfl) ?_
                      refine LW.noB rfl rfl rfl rfl (ne_beq (v := false) rfl rfl) ?_
                      refine LW.pure rfl rfl (RV.pickFB rfl rfl rfl) ?_
                      refine LW.pure rfl rfl (RV.assign rfl) ?_
                      refine LW.nil (hK15 _ _ ?_)
                      refine CW.ret ?_
                      obtain rfl := Option.some.inj F
                      refine ⟨_, (ResOK.one rfl), ?_⟩
                      refine ⟨(by first | rfl | simp), R0⟩
                  ·
                    replace F := ite_n hp7 F
                    have hq7 := dec_f hp7
                    refine CW.region ?_
                    refine LW.pure rfl rfl (RV.move rfl) ?_
                    refine LW.pure rfl rfl (RV.eqi rfl rfl) ?_
                    refine LW.pure rfl rfl (RV.move rfl) ?_
                    refine LW.pureYB rfl rfl rfl rfl hq4 (RV.move rfl) ?_
                    refine LW.pureYB rfl rfl rfl rfl hq4 (RV.eqi rfl rfl) ?_
                    refine LW.pure rfl rfl (RV.pickTB rfl hq4 rfl) ?_
                    refine LW.pure rfl rfl (RV.move rfl) ?_
                    refine LW.pureYB rfl rfl rfl rfl hq5 (RV.move rfl) ?_
                    refine LW.pureYB rfl rfl rfl rfl hq5 (RV.eqi rfl rfl) ?_
                    refine LW.pure rfl rfl (RV.pickTB rfl hq5 rfl) ?_
                    refine LW.pure rfl rfl (RV.move rfl) ?_
                    refine LW.pureYB rfl rfl rfl rfl hq6 (RV.move rfl) ?_
                    refine LW.pureYB rfl rfl rfl rfl hq6 (RV.eqi rfl rfl) ?_
                    refine LW.pure rfl rfl (RV.pickTB rfl hq6 rfl) ?_
                    refine LW.pure rfl rfl (RV.move rfl) ?_
                    refine LW.noB rfl rfl rfl rfl (ne_beq (v := false) hq7 rfl) ?_
                    refine LW.noB rfl rfl rfl rfl (ne_beq (v := false) hq7 rfl) ?_
                    refine LW.noB rfl rfl rfl rfl (ne_beq (v := false) hq7 rfl) ?_
                    refine LW.pure rfl rfl (RV.pickFB rfl hq7 rfl) ?_
                    refine LW.pure rfl rfl (RV.move rfl) ?_
                    refine LW.noB rfl rfl rfl rfl (ne_beq (v := false) rfl rfl) ?_
                    refine LW.noB rfl rfl rfl rfl (ne_beq (v := false) rfl rfl) ?_
                    refine LW.noB rfl rfl rfl rfl (ne_beq (v := false) rfl rfl) ?_
                    refine LW.pure rfl rfl (RV.pickFB rfl rfl rfl) ?_
                    refine LW.pure rfl rfl (RV.move rfl) ?_
                    refine LW.noB rfl rfl rfl rfl (ne_beq (v := false) rfl rfl) ?_
                    refine LW.noB rfl rfl rfl rfl (ne_beq (v := false) rfl rfl) ?_
                    refine LW.noB rfl rfl rfl rfl (ne_beq (v := false) rfl rfl) ?_
                    refine LW.pure rfl rfl (RV.pickFB rfl rfl rfl) ?_
                    refine LW.pure rfl rfl (RV.move rfl) ?_
                    refine LW.noB rfl rfl rfl rfl (ne_beq (v := false) rfl rfl) ?_
                    refine LW.pure rfl rfl (RV.pickFB rfl rfl rfl) ?_
                    refine LW.pure rfl rfl (RV.assign rfl) ?_
                    refine LW.nil (hK15 _ _ ?_)
                    refine CW.ret ?_
                    obtain rfl := Option.some.inj F
                    refine ⟨_, (ResOK.one rfl), ?_⟩
                    refine ⟨(by first | rfl | simp), R0⟩
                ·
                  replace F := ite_n hp6 F
                  have hq6 := dec_f hp6
                  refine CW.region ?_
                  refine LW.pure rfl rfl (RV.move rfl) ?_
                  refine LW.pure rfl rfl (RV.eqi rfl rfl) ?_
                  refine LW.pure rfl rfl (RV.move rfl) ?_
                  refine LW.pureYB rfl rfl rfl rfl hq4 (RV.move rfl) ?_
                  refine LW.pureYB rfl rfl rfl rfl hq4 (RV.eqi rfl rfl) ?_
                  refine LW.pure rfl rfl (RV.pickTB rfl hq4 rfl) ?_
                  refine LW.pure rfl rfl (RV.move rfl) ?_
                  refine LW.pureYB rfl rfl rfl rfl hq5 (RV.move rfl) ?_
                  refine LW.pureYB rfl rfl rfl rfl hq5 (RV.eqi rfl rfl) ?_
                  refine LW.pure rfl rfl (RV.pickTB rfl hq5 rfl) ?_
                  refine LW.pure rfl rfl (RV.move rfl) ?_
                  refine LW.noB rfl rfl rfl rfl (ne_beq (v := false) hq6 rfl) ?_
                  refine LW.noB rfl rfl rfl rfl (ne_beq (v := false) hq6 rfl) ?_
                  refine LW.pure rfl rfl (RV.pickFB rfl hq6 rfl) ?_
                  refine LW.pure rfl rfl (RV.move rfl) ?_
                  refine LW.noB rfl rfl rfl rfl (ne_beq (v := false) rfl rfl) ?_
                  refine LW.noB rfl rfl rfl rfl (ne_beq (v := false) rfl rfl) ?_
                  refine LW.noB rfl rfl rfl rfl (ne_beq (v := false) rfl rfl) ?_
                  refine LW.pure rfl rfl (RV.pickFB rfl rfl rfl) ?_
                  refine LW.pure rfl rfl (RV.move rfl) ?_
                  refine LW.noB rfl rfl rfl rfl (ne_beq (v := false) rfl rfl) ?_
                  refine LW.noB rfl rfl rfl rfl (ne_beq (v := false) rfl rfl) ?_
                  refine LW.noB rfl rfl rfl rfl (ne_beq (v := false) rfl rfl) ?_
                  refine LW.pure rfl rfl (RV.pickFB rfl rfl rfl) ?_
                  refine LW.pure rfl rfl (RV.move rfl) ?_
                  refine LW.noB rfl rfl rfl rfl (ne_beq (v := false) rfl rfl) ?_
                  refine LW.noB rfl rfl rfl rfl (ne_beq (v := false) rfl rfl) ?_
                  refine LW.noB rfl rfl rfl rfl (ne_beq (v := false) rfl rfl) ?_
                  refine LW.pure rfl rfl (RV.pickFB rfl rfl rfl) ?_
                  refine LW.pure rfl rfl (RV.move rfl) ?_
                  refine LW.noB rfl rfl rfl rfl (ne_beq (v := false) rfl rfl) ?_
                  refine LW.pure rfl rfl (RV.pickFB rfl rfl rfl) ?_
                  refine LW.pure rfl rfl (RV.assign rfl) ?_
                  refine LW.nil (hK15 _ _ ?_)
                  refine CW.ret ?_
                  obtain rfl := Option.some.inj F
                  refine ⟨_, (ResOK.one rfl), ?_⟩
                  refine ⟨(by first | rfl | simp), R0⟩
              ·
                replace F := ite_n hp5 F
                have hq5 := dec_f hp5
                refine CW.region ?_
                refine LW.pure rfl rfl (RV.move rfl) ?_
                refine LW.pure rfl rfl (RV.eqi rfl rfl) ?_
                refine LW.pure rfl rfl (RV.move rfl) ?_
                refine LW.pureYB rfl rfl rfl rfl hq4 (RV.move rfl) ?_
                refine LW.pureYB rfl rfl rfl rfl hq4 (RV.eqi rfl rfl) ?_
                refine LW.pure rfl rfl (RV.pickTB rfl hq4 rfl) ?_
                refine LW.pure rfl rfl (RV.move rfl) ?_
                refine LW.noB rfl rfl rfl rfl (ne_beq (v := false) hq5 rfl) ?_
                refine LW.noB rfl rfl rfl rfl (ne_beq (v := false) hq5 rfl) ?_
                refine LW.pure rfl rfl (RV.pickFB rfl hq5 rfl) ?_
                refine LW.pure rfl rfl (RV.move rfl) ?_
                refine LW.noB rfl rfl rfl rfl (ne_beq (v := false) rfl rfl) ?_
                refine LW.noB rfl rfl rfl rfl (ne_beq (v := false) rfl rfl) ?_
                refine LW.pure rfl rfl (RV.pickFB rfl rfl rfl) ?_
                refine LW.pure rfl rfl (RV.move rfl) ?_
                refine LW.noB rfl rfl rfl rfl (ne_beq (v := false) rfl rfl) ?_
                refine LW.noB rfl rfl rfl rfl (ne_beq (v := false) rfl rfl) ?_
                refine LW.noB rfl rfl rfl rfl (ne_beq (v := false) rfl rfl) ?_
                refine LW.pure rfl rfl (RV.pickFB rfl rfl rfl) ?_
                refine LW.pure rfl rfl (RV.move rfl) ?_
                refine LW.noB rfl rfl rfl rfl (ne_beq (v := false) rfl rfl) ?_
                refine LW.noB rfl rfl rfl rfl (ne_beq (v := false) rfl rfl) ?_
                refine LW.noB rfl rfl rfl rfl (ne_beq (v := false) rfl rfl) ?_
                refine LW.pure rfl rfl (RV.pickFB rfl rfl rfl) ?_
                refine LW.pure rfl rfl (RV.move rfl) ?_
                refine LW.noB rfl rfl rfl rfl (ne_beq (v := false) rfl rfl) ?_
                refine LW.noB rfl rfl rfl rfl (ne_beq (v := false) rfl rfl) ?_
                refine LW.noB rfl rfl rfl rfl (ne_beq (v := false) rfl rfl) ?_
                refine LW.pure rfl rfl (RV.pickFB rfl rfl rfl) ?_
                refine LW.pure rfl rfl (RV.move rfl) ?_
                refine LW.noB rfl rfl rfl rfl (ne_beq (v := false) rfl rfl) ?_
                refine LW.pure rfl rfl (RV.pickFB rfl rfl rfl) ?_
                refine LW.pure rfl rfl (RV.assign rfl) ?_
                refine LW.nil (hK15 _ _ ?_)
                refine CW.ret ?_
                obtain rfl := Option.some.inj F
                refine ⟨_, (ResOK.one rfl), ?_⟩
                refine ⟨(by first | rfl | simp), R0⟩
            ·
              replace F := ite_n hp4 F
              have hq4 := dec_f hp4
              refine CW.region ?_
              refine LW.pure rfl rfl (RV.move rfl) ?_
              refine LW.pure rfl rfl (RV.eqi rfl rfl) ?_
              refine LW.pure rfl rfl (RV.move rfl) ?_
              refine LW.noB rfl rfl rfl rfl (ne_beq (v := false) hq4 rfl) ?_
              refine LW.noB rfl rfl rfl rfl (ne_beq (v := false) hq4 rfl) ?_
              refine LW.pure rfl rfl (RV.pickFB rfl hq4 rfl) ?_
              refine LW.pure rfl rfl (RV.move rfl) ?_
              refine LW.noB rfl rfl rfl rfl (ne_beq (v := false) rfl rfl) ?_
              refine LW.noB rfl rfl rfl rfl (ne_beq (v := false) rfl rfl) ?_
              refine LW.pure rfl rfl (RV.pickFB rfl rfl rfl) ?_
              refine LW.pure rfl rfl (RV.move rfl) ?_
              refine LW.noB rfl rfl rfl rfl (ne_beq (v := false) rfl rfl) ?_
              refine LW.noB rfl rfl rfl rfl (ne_beq (v := false) rfl rfl) ?_
              refine LW.pure rfl rfl (RV.pickFB rfl rfl rfl) ?_
              refine LW.pure rfl rfl (RV.move rfl) ?_
              refine LW.noB rfl rfl rfl rfl (ne_beq (v := false) rfl rfl) ?_
              refine LW.noB rfl rfl rfl rfl (ne_beq (v := false) rfl rfl) ?_
              refine LW.noB rfl rfl rfl rfl (ne_beq (v := false) rfl rfl) ?_
              refine LW.pure rfl rfl (RV.pickFB rfl rfl rfl) ?_
              refine LW.pure rfl rfl (RV.move rfl) ?_
              refine LW.noB rfl rfl rfl rfl (ne_beq (v := false) rfl rfl) ?_
              refine LW.noB rfl rfl rfl rfl (ne_beq (v := false) rfl rfl) ?_
              refine LW.noB rfl rfl rfl rfl (ne_beq (v := false) rfl rfl) ?_
              refine LW.pure rfl rfl (RV.pickFB rfl rfl rfl) ?_
              refine LW.pure rfl rfl (RV.move rfl) ?_
              refine LW.noB rfl rfl rfl rfl (ne_beq (v := false) rfl rfl) ?_
              refine LW.noB rfl rfl rfl rfl (ne_beq (v := false) rfl rfl) ?_
              refine LW.noB rfl rfl rfl rfl (ne_beq (v := false) rfl rfl) ?_
              refine LW.pure rfl rfl (RV.pickFB rfl rfl rfl) ?_
              refine LW.pure rfl rfl (RV.move rfl) ?_
              refine LW.noB rfl rfl rfl rfl (ne_beq (v := false) rfl rfl) ?_
              refine LW.pure rfl rfl (RV.pickFB rfl rfl rfl) ?_
              refine LW.pure rfl rfl (RV.assign rfl) ?_
              refine LW.nil (hK15 _ _ ?_)
              refine CW.ret ?_
              obtain rfl := Option.some.inj F
              refine ⟨_, (ResOK.one rfl), ?_⟩
              refine ⟨(by first | rfl | simp), R0⟩
        ·
          intro K16 hK16 jK33
          by_cases hp11 : r1.2 = 0
          ·
            replace F := ite_y hp11 F
            have hq11 := dec_t hp11
            refine CW.region ?_
            refine LW.pure rfl rfl (RV.move rfl) ?_
            refine LW.pure rfl rfl (RV.nei rfl rfl) ?_
            refine LW.pure rfl rfl (RV.move rfl) ?_
            refine LW.pureYB rfl rfl rfl rfl (not_f hq11) (RV.move rfl) ?_
            refine LW.pureYB rfl rfl rfl rfl (not_f hq11) (RV.lss rfl rfl) ?_
            refine LW.pure rfl rfl (RV.pickFB rfl (not_f hq11) rfl) ?_
            refine LW.nil (jK33 _ _ ⟨_, ?_, ⟨(decide (a1 < 0)), F, rfl, H⟩⟩)
            exact ⟨rfl, rfl, rfl, rfl, trivial⟩
          ·
            replace F := ite_n hp11 F
            have hq11 := dec_f hp11
            refine CW.region ?_
            refine LW.pure rfl rfl (RV.move rfl) ?_
            refine LW.pure rfl rfl (RV.nei rfl rfl) ?_
            refine LW.pure rfl rfl (RV.move rfl) ?_
            refine LW.noB rfl rfl rfl rfl (ne_beq (v := true) (not_t hq11) rfl) ?_
            refine LW.noB rfl rfl rfl rfl (ne_beq (v := true) (not_t hq11) rfl) ?_
            refine LW.pure rfl rfl (RV.pickTB rfl (not_t hq11) rfl) ?_
            refine LW.nil (jK33 _ _ ⟨_, ?_, ⟨true, F, rfl, H⟩⟩)
            exact ⟨rfl, rfl, rfl, rfl, trivial⟩
    ·
      intro K17 hK17 jK34
      obtain ⟨r13, hr13, F⟩ := bnd_some F
      by_cases hp12 : r13 = true
      ·
        replace F := ite_y hp12 F
        have hq12 : r13 = true := hp12
        refine CW.region ?_
        refine LW.pure rfl rfl (RV.loadA [.slice A20_0_worth r1.1.worth.length c20_0_worth] Tk24 rfl (H.blk 2 rfl).cells rfl rfl) ?_
        refine LW.pure rfl rfl (RV.loadA [.slice A22_0_worth r12.1.worth.length c22_0_worth] Tk24 rfl (H.blk 0 rfl).cells rfl rfl) ?_
        refine LW.go rfl rfl (OW.call Tc46 rfl (ref04_Same_ok (a0 := r1.1) (a1 := r12.1) (H.tab 3 rfl).sl2 (H.tab 1 rfl).sl2 hr13) ?_)
        rintro _ w21 ⟨rfl, E16⟩
        refine ⟨_, rfl, ?_⟩
        replace H := H.grow E16
        replace R0 := H.ext
        refine LW.pure rfl rfl (RV.not rfl) ?_
        refine LW.pure rfl rfl (RV.move rfl) ?_
        refine LW.pureYB rfl rfl rfl rfl (not_f hq12) (RV.move rfl) ?_
        refine LW.pureYB rfl rfl rfl rfl (not_f hq12) (RV.move rfl) ?_
        refine LW.pureYB rfl rfl rfl rfl (not_f hq12) (RV.nei rfl rfl) ?_
        refine LW.pure rfl rfl (RV.pickFB rfl (not_f hq12) rfl) ?_
        replace H := H.pick (L' := [.tab A20_0_worth c20_0_worth 25 hs20_0_worth 3 1 (encM encN r1.1.worth), .blk b1 24 [.slice A_a0_worth a0.worth.length c_a0_worth], .blk b2 24 [.slice A20_0_worth r1.1.worth.length c20_0_worth]]) [3, 4, 2] (by decide) rfl
        replace R0 := H.ext
        refine LW.nil (jK34 _ _ ⟨_, ?_, ⟨(!(decide (r1.2 = r12.2))), F, rfl, H⟩⟩)
        exact ⟨rfl, rfl, rfl, rfl, rfl, rfl, trivial⟩
      ·
        replace F := ite_n hp12 F
        have hq12 : r13 = false := raw_f hp12
        refine CW.region ?_
        refine LW.pure rfl rfl (RV.loadA [.slice A20_0_worth r1.1.worth.length c20_0_worth] Tk24 rfl (H.blk 2 rfl).cells rfl rfl) ?_
        refine LW.pure rfl rfl (RV.loadA [.slice A22_0_worth r12.1.worth.length c22_0_worth] Tk24 rfl (H.blk 0 rfl).cells rfl rfl) ?_
        refine LW.go rfl rfl (OW.call Tc46 rfl (ref04_Same_ok (a0 := r1.1) (a1 := r12.1) (H.tab 3 rfl).sl2 (H.tab 1 rfl).sl2 hr13) ?_)
        rintro _ w22 ⟨rfl, E17⟩
        refine ⟨_, rfl, ?_⟩
        replace H := H.grow E17
        replace R0 := H.ext
        refine LW.pure rfl rfl (RV.not rfl) ?_
        refine LW.pure rfl rfl (RV.move rfl) ?_
        refine LW.noB rfl rfl rfl rfl (ne_beq (v := true) (not_t hq12) rfl) ?_
        refine LW.noB rfl rfl rfl rfl (ne_beq (v := true) (not_t hq12) rfl) ?_
        refine LW.noB rfl rfl rfl rfl (ne_beq (v := true) (not_t hq12) rfl) ?_
        refine LW.pure rfl rfl (RV.pickTB rfl (not_t hq12) rfl) ?_
        replace H := H.pick (L' := [.tab A20_0_worth c20_0_worth 25 hs20_0_worth 3 1 (encM encN r1.1.worth), .blk b1 24 [.slice A_a0_worth a0.worth.length c_a0_worth], .blk b2 24 [.slice A20_0_worth r1.1.worth.length c20_0_worth]]) [3, 4, 2] (by decide) rfl
        replace R0 := H.ext
        refine LW.nil (jK34 _ _ ⟨_, ?_, ⟨true, F, rfl, H⟩⟩)
        exact ⟨rfl, rfl, rfl, rfl, rfl, rfl, trivial⟩
end Go.D4

namespace Go.Tb
/-- A loop over 0 .. N - 1 with a state, that is left at the first i for which p does not hold. -/
theorem scan_loop {S R : Type} (N : Nat) (p : Nat → Bool) (g : Nat → S) (L : Nat → S → Int → Option R) (yes : Option R) (no : Nat → Option R)
    (step : ∀ n i : Nat, i < N → L (n + 1) (g i) (i : Int) = if p i = true then L n (g (i + 1)) ((i + 1 : Nat) : Int) else no i)
    (stop : ∀ n : Nat, L (n + 1) (g N) (N : Int) = yes) : ∀ (d n i : Nat), N = i + d → d < n → L n (g i) (i : Int) = match (List.range' i d).find? (fun j => !p j) with | none => yes | some j => no j
  | 0, n + 1, i, hd, hn => by
    have hi : i = N := by omega
    subst hi
    rw [stop n]; rfl
  | d + 1, n + 1, i, hd, hn => by
    rw [step n i (by omega), List.range'_succ, List.find?_cons]
    cases hp : p i
    · simp
    · simp only [if_true, Bool.not_true]
      exact scan_loop N p g L yes no step stop d n (i + 1) (by omega) (by omega)
theorem find_all {p : Nat → Bool} {i d : Nat} : (List.range' i d).find? (fun j => !p j) = none ↔ ∀ j, i ≤ j → j < i + d → p j = true := by
  rw [List.find?_eq_none]
  constructor
  · intro h j h1 h2
    have := h j (by rw [List.mem_range'_1]; omega)
    simpa using this
  · intro h x hx
    rw [List.mem_range'_1] at hx
    simp [h x hx.1 hx.2]
/-- A loop over 0 .. N - 1 with a state and no way out. -/
theorem for_loop {S R : Type} (N : Nat) (g : Nat → S) (L : Nat → S → Int → Option R) (yes : Option R)
    (step : ∀ n i : Nat, i < N → L (n + 1) (g i) (i : Int) = L n (g (i + 1)) ((i + 1 : Nat) : Int))
    (stop : ∀ n : Nat, L (n + 1) (g N) (N : Int) = yes) : ∀ (d n i : Nat), N = i + d → d < n → L n (g i) (i : Int) = yes
  | 0, n + 1, i, hd, hn => by
    have hi : i = N := by omega
    subst hi
    exact stop n
  | d + 1, n + 1, i, hd, hn => by
    rw [step n i (by omega)]
    exact for_loop N g L yes step stop d n (i + 1) (by omega) (by omega)
theorem for_loop0 {S R : Type} (N : Nat) (g : Nat → S) (L : Nat → S → Int → Option R) (yes : Option R)
    (step : ∀ n i : Nat, i < N → L (n + 1) (g i) (i : Int) = L n (g (i + 1)) ((i + 1 : Nat) : Int))
    (stop : ∀ n : Nat, L (n + 1) (g N) (N : Int) = yes) (hN : N ≤ 9223372036854775807) : L FU (g 0) 0 = yes :=
  for_loop N g L yes step stop N FU 0 (by omega) (by have := FU_pos; omega)
theorem scan_loop0 {S R : Type} (N : Nat) (p : Nat → Bool) (g : Nat → S) (L : Nat → S → Int → Option R) (yes no : Option R)
    (step : ∀ n i : Nat, i < N → L (n + 1) (g i) (i : Int) = if p i = true then L n (g (i + 1)) ((i + 1 : Nat) : Int) else no)
    (stop : ∀ n : Nat, L (n + 1) (g N) (N : Int) = yes) (hN : N ≤ 9223372036854775807) : L FU (g 0) 0 = if (∀ j, j < N → p j = true) then yes else no := by
  have h := scan_loop N p g L yes (fun _ => no) step stop N FU 0 (by omega) (by have := FU_pos; omega)
  refine Eq.trans h ?_
  cases hf : (List.range' 0 N).find? (fun j => !p j) with
  | none => rw [if_pos (fun j hj => find_all.1 hf j (by omega) (by omega))]
  | some j =>
    have h1 := List.find?_some hf
    have h2 := List.mem_of_find?_eq_some hf
    rw [List.mem_range'_1] at h2
    rw [if_neg]
    intro hall
    have := hall j (by omega)
    simp [this] at h1
/-- The same over the elements of a list. -/
theorem list_loop0 {α R : Type} (l : List α) (p : α → Bool) (L : Nat → Int → Option R) (yes no : Option R)
    (step : ∀ (n i : Nat) (x : α), l[i]? = some x → L (n + 1) (i : Int) = if p x = true then L n ((i + 1 : Nat) : Int) else no)
    (stop : ∀ n : Nat, L (n + 1) (l.length : Int) = yes) (hl : l.length ≤ 9223372036854775807) : L FU 0 = if l.all p = true then yes else no := by
  have h := scan_loop0 l.length (fun i => (l[i]?.map p).getD true) (fun _ => ()) (fun n _ i => L n i) yes no (fun n i hi => by
    have hx : l[i]? = some l[i] := by simp [hi]
    rw [step n i _ hx]; simp [hx]) stop hl
  refine Eq.trans h ?_
  by_cases ha : l.all p = true
  · rw [if_pos ha, if_pos]
    intro j hj
    have := List.all_eq_true.1 ha l[j] (List.getElem_mem hj)
    simp [hj, this]
  · rw [if_neg ha, if_neg]
    intro hc
    refine ha (List.all_eq_true.2 fun x hx => ?_)
    obtain ⟨j, hj⟩ := List.getElem?_of_mem hx
    have := hc j (lt_of_at hj)
    simpa [hj] using this
end Go.Tb

set_option linter.unusedVariables false
set_option linter.unusedSimpArgs false
namespace Go.D4
open Go.Tb
theorem sane_eq : law04_sane = some true := by decide +kernel
theorem for0 {S R : Type} (N : Nat) (g : Nat → S) (L : Nat → S → Int → Option R) (yes : Option R) {s0 : S} (h0 : g 0 = s0)
    (step : ∀ n i : Nat, i < N → L (n + 1) (g i) (i : Int) = L n (g (i + 1)) ((i + 1 : Nat) : Int))
    (stop : ∀ n : Nat, L (n + 1) (g N) (N : Int) = yes) (hN : N ≤ 9223372036854775807) : L FU s0 0 = yes := by
  rw [← h0]; exact for_loop0 N g L yes step stop hN
/-- A library loop: is there an element for which f holds? -/
theorem ContainsFunc_eq (l : List Int) (f : Int → Option Bool) (q : Int → Bool) (hf : ∀ x, f x = some (q x)) (hl : l.length ≤ 1000000) : slices_ContainsFunc_int l f = some (l.any q) := by
  unfold slices_ContainsFunc_int slices_IndexFunc_int
  have h := scan_loop l.length (fun i => (l[i]?.map fun x => !q x).getD true) (fun _ => ()) (fun n _ i => slices_IndexFunc_int_L1 l f n i) (some (-1)) (fun j => some (j : Int)) (fun n i hi => ?_) (fun n => ?_) l.length FU 0 (by omega) (by have := FU_pos; omega)
  · rw [bnd_eq (x := match (List.range' 0 l.length).find? (fun j => !((l[j]?.map fun x => !q x).getD true)) with | none => -1 | some j => (j : Int)) (by
      refine Eq.trans h ?_
      cases (List.range' 0 l.length).find? (fun j => !((l[j]?.map fun x => !q x).getD true)) <;> rfl)]
    congr 1
    cases hf : (List.range' 0 l.length).find? (fun j => !((l[j]?.map fun x => !q x).getD true)) with
    | none =>
      have := find_all.1 hf
      have ha : l.any q = false := List.any_eq_false.2 fun x hx => by
        obtain ⟨j, hj⟩ := List.getElem?_of_mem hx
        have := this j (by omega) (by have := lt_of_at hj; omega)
        simpa [hj] using this
      simp [ha]
    | some j =>
      have h1 := List.find?_some hf
      have h2 := List.mem_of_find?_eq_some hf
      rw [List.mem_range'_1] at h2
      have hx : l[j]? = some l[j] := List.getElem?_eq_getElem (by omega)
      rw [hx] at h1
      have ha : l.any q = true := by
        rw [List.any_eq_true]
        exact ⟨l[j], List.getElem_mem _, by simpa using h1⟩
      simp [ha]
  · show slices_IndexFunc_int_B1 l f (slices_IndexFunc_int_L1 l f n) _ = _
    have hx : l[i]? = some l[i] := by simp [hi]
    unfold slices_IndexFunc_int_B1
    rw [if_pos (by omega), ix_nat hx, bnd_eq (hf _), gd_pos (by omega), hx]
    cases h : q l[i] <;> simp [h]
  · show slices_IndexFunc_int_B1 l f (slices_IndexFunc_int_L1 l f n) _ = _
    unfold slices_IndexFunc_int_B1
    rw [if_neg (by omega)]; rfl
def within (n lo hi : Int) : Bool := decide (lo ≤ n) && decide (n ≤ hi)
theorem within_iff {n lo hi : Int} : within n lo hi = true ↔ lo ≤ n ∧ n ≤ hi := by unfold within; simp
theorem from_eq (n lo hi : Int) : cut_from n lo hi = some (within n lo hi) := by
  unfold cut_from within
  by_cases h : lo ≤ n <;> simp [h]
def dep (b : Bog) : Int := ((b.worth[0]?.getD []).length : Int)
theorem ix0 {α β : Type} {l : List α} {k : α → Option β} {x : α} (h : l[0]? = some x) : ix l 0 k = k x := ix_nat (i := 0) h
theorem depth_eq {b : Bog} (h : 1 ≤ b.worth.length) : cut_depth b = some (dep b) := by
  have hx : b.worth[0]? = some b.worth[0] := by simp
  unfold cut_depth dep
  rw [ix0 hx, hx]; rfl
def okW (w : Int) : Bool := within w (-50) 50
def okCol (d : Int) (c : List Int) : Bool := decide ((c.length : Int) = d) && c.all okW
def okB (b : Bog) : Bool := within b.worth.length 1 6 && within (dep b) 1 4 && b.worth.all (okCol (dep b))
def validate (b : Bog) : Int := if okB b = true then 0 else 1
def Short (b : Bog) : Prop := b.worth.length ≤ 50 ∧ ∀ c ∈ b.worth, c.length ≤ 50
theorem Validate_1_eq (w : Int) : cut_Validate_1 w = some (!okW w) := by
  unfold cut_Validate_1; rw [bnd_eq (from_eq _ _ _)]; rfl
theorem any_not {l : List Int} : (l.any fun x => !okW x) = !(l.all okW) := by
  induction l with
  | nil => rfl
  | cons x r ih => simp [ih]
theorem Validate_eq {b : Bog} (hs : Short b) : cut_Validate b = some (validate b) := by
  unfold cut_Validate validate okB
  rw [bnd_eq (from_eq _ _ _)]
  cases h1 : within b.worth.length 1 6
  · rw [if_neg (by simp)]; unfold cut_Validate_k3; simp
  have h1' := within_iff.1 h1
  rw [if_pos rfl, bnd_eq (depth_eq (by omega)), bnd_eq (from_eq _ _ _)]
  cases h2 : within (dep b) 1 4
  · unfold cut_Validate_k3; simp
  unfold cut_Validate_k3
  rw [if_neg (by simp), list_loop0 b.worth (okCol (dep b)) (cut_Validate_L1 b) (some 0) (some 1) (fun n i x hx => ?_) (fun n => ?_) (by omega)]
  · cases b.worth.all (okCol (dep b)) <;> simp
  · have := lt_of_at hx
    have hxl := hs.2 x (List.mem_of_getElem? hx)
    show cut_Validate_B1 b (cut_Validate_L1 b n) _ = _
    unfold cut_Validate_B1 okCol
    rw [if_pos (by omega), ix_nat hx, bnd_eq (depth_eq (by omega))]
    unfold cut_Validate_k2
    by_cases hd : (x.length : Int) = dep b
    · rw [if_pos hd, bnd_eq (ContainsFunc_eq x _ _ Validate_1_eq (by omega)), any_not, gd_pos (by omega)]
      cases x.all okW <;> simp [hd]
    · rw [if_neg hd, gd_pos (by omega)]; simp [hd]
  · show cut_Validate_B1 b (cut_Validate_L1 b n) _ = _
    unfold cut_Validate_B1
    rw [if_neg (by omega)]; rfl
theorem rValidate_eq {b : Bog} (hs : Short b) : ref04_Validate b = some (validate b) := by
  unfold ref04_Validate validate okB
  by_cases h1 : (b.worth.length : Int) < 1
  · have : within b.worth.length 1 6 = false := by simp [within]; omega
    rw [if_pos h1, this]; unfold ref04_Validate_k4; simp
  rw [if_neg h1]
  by_cases h2 : (6 : Int) < b.worth.length
  · have : within b.worth.length 1 6 = false := by simp [within]; omega
    rw [if_pos h2, this]; unfold ref04_Validate_k4; simp
  rw [if_neg h2]
  have h3 : within b.worth.length 1 6 = true := within_iff.2 (by omega)
  have h0 : b.worth[0]? = some b.worth[0] := by simp
  have hd : dep b = (b.worth[0].length : Int) := by unfold dep; rw [h0]; rfl
  rw [ix0 h0, ix0 h0, h3, ← hd]
  by_cases h4 : dep b < 1
  · have : within (dep b) 1 4 = false := by simp [within]; omega
    rw [if_pos h4, this]; unfold ref04_Validate_k4; simp
  rw [if_neg h4]
  by_cases h5 : 4 < dep b
  · have : within (dep b) 1 4 = false := by simp [within]; omega
    simp only [h5, this]; unfold ref04_Validate_k4; simp
  have h6 : within (dep b) 1 4 = true := within_iff.2 (by omega)
  simp only [h5, h6, decide_false, Bool.true_and]
  unfold ref04_Validate_k4
  rw [if_neg (by simp), list_loop0 b.worth (okCol (dep b)) (ref04_Validate_L2 b) (some 0) (some 1) (fun n i x hx => ?_) (fun n => ?_) (by omega)]
  · cases b.worth.all (okCol (dep b)) <;> simp
  · have := lt_of_at hx
    have hxl := hs.2 x (List.mem_of_getElem? hx)
    show ref04_Validate_B2 b (ref04_Validate_L2 b n) _ = _
    unfold ref04_Validate_B2 okCol
    rw [if_pos (by omega), ix_nat hx, ix0 h0, ← hd]
    by_cases hdd : (x.length : Int) = dep b
    · rw [if_pos hdd, list_loop0 x okW (ref04_Validate_L1 b i (ref04_Validate_L2 b n)) (ref04_Validate_L2 b n ((i + 1 : Nat) : Int)) (some 1) (fun m j v hv => ?_) (fun m => ?_) (by omega)]
      · cases x.all okW <;> simp [hdd]
      · have := lt_of_at hv
        show ref04_Validate_B1 b i (ref04_Validate_L2 b n) (ref04_Validate_L1 b i (ref04_Validate_L2 b n) m) _ = _
        unfold ref04_Validate_B1
        rw [ix_nat hx, if_pos (by omega), ix_nat hx, ix_nat hv]
        unfold ref04_Validate_k3
        by_cases hb : (50 : Int) < v
        · rw [if_pos hb]; simp [okW, within]; omega
        · rw [if_neg hb, ix_nat hx, ix_nat hv, gd_pos (by omega)]
          by_cases hc : v < -50
          · simp [hc, okW, within]; omega
          · have : okW v = true := within_iff.2 (by omega)
            simp [hc, this]
      · show ref04_Validate_B1 b i (ref04_Validate_L2 b n) (ref04_Validate_L1 b i (ref04_Validate_L2 b n) m) _ = _
        unfold ref04_Validate_B1
        rw [ix_nat hx, if_neg (by omega)]
        unfold ref04_Validate_k2
        rw [gd_pos (by omega)]; rfl
    · rw [if_neg hdd]; simp [hdd]
  · show ref04_Validate_B2 b (ref04_Validate_L2 b n) _ = _
    unfold ref04_Validate_B2
    rw [if_neg (by omega)]; rfl
end Go.D4

set_option linter.unusedVariables false
set_option linter.unusedSimpArgs false
namespace Go.D4
open Go.Tb
def gi (l : List Int) (i : Nat) : Int := l.getD i 0
theorem gi_of {l : List Int} {i : Nat} {x : Int} (h : l[i]? = some x) : gi l i = x := by simp [gi, List.getD, h]
def rightB (h : List Int) : Bool := decide (∀ j, j < h.length → 1 ≤ j → within (gi h j - gi h (j - 1)) (-1) 1 = true)
def okL (b : Bog) (h : List Int) : Bool := decide ((h.length : Int) = b.worth.length) && h.all (fun n => within n 0 (dep b))
def listE (b : Bog) (h : List Int) : Int := if validate b = 0 then (if okL b h = true then 0 else 1) else validate b
def hollowE (b : Bog) (h : List Int) : Int := if listE b h = 0 then (if rightB h = true then 0 else 6) else listE b h
structure Ok (b : Bog) : Prop where
  n1 : 1 ≤ b.worth.length
  n6 : b.worth.length ≤ 6
  d1 : 1 ≤ dep b
  d4 : dep b ≤ 4
  col : ∀ c ∈ b.worth, (c.length : Int) = dep b ∧ ∀ w ∈ c, -50 ≤ w ∧ w ≤ 50
theorem okB_iff {b : Bog} : okB b = true ↔ Ok b := by
  unfold okB
  simp only [Bool.and_eq_true, within_iff, List.all_eq_true, okCol, decide_eq_true_eq, okW]
  constructor
  · rintro ⟨⟨h1, h2⟩, h3⟩
    exact ⟨by omega, by omega, h2.1, h2.2, h3⟩
  · intro h
    exact ⟨⟨⟨by have := h.n1; omega, by have := h.n6; omega⟩, h.d1, h.d4⟩, h.col⟩
theorem val0 {b : Bog} : validate b = 0 ↔ Ok b := by
  rw [← okB_iff]; unfold validate; split <;> simp_all
theorem okL_iff {b : Bog} {h : List Int} : okL b h = true ↔ h.length = b.worth.length ∧ ∀ x ∈ h, 0 ≤ x ∧ x ≤ dep b := by
  unfold okL
  simp only [Bool.and_eq_true, decide_eq_true_eq, List.all_eq_true, within_iff]
  constructor
  · rintro ⟨h1, h2⟩; exact ⟨by omega, h2⟩
  · rintro ⟨h1, h2⟩; exact ⟨by omega, h2⟩
theorem list0 {b : Bog} {h : List Int} : listE b h = 0 ↔ Ok b ∧ okL b h = true := by
  unfold listE
  constructor
  · intro h0
    split at h0
    · rename_i hv
      split at h0
      · rename_i ho; exact ⟨val0.1 hv, ho⟩
      · cases h0
    · rename_i hv; exact absurd h0 hv
  · rintro ⟨h1, h2⟩
    rw [if_pos (val0.2 h1), if_pos h2]
theorem hollow0 {b : Bog} {h : List Int} : hollowE b h = 0 ↔ Ok b ∧ okL b h = true ∧ rightB h = true := by
  unfold hollowE
  constructor
  · intro h0
    split at h0
    · rename_i hv
      split at h0
      · rename_i ho; exact ⟨(list0.1 hv).1, (list0.1 hv).2, ho⟩
      · cases h0
    · rename_i hv; exact absurd h0 hv
  · rintro ⟨h1, h2, h3⟩
    rw [if_pos (list0.2 ⟨h1, h2⟩), if_pos h3]
def isum : List Int → Int
  | [] => 0
  | x :: r => x + isum r
theorem isum_append (l m : List Int) : isum (l ++ m) = isum l + isum m := by
  induction l with
  | nil => simp [isum]
  | cons x r ih => simp [isum, ih]; omega
theorem isum_take {l : List Int} {j : Nat} {x : Int} (h : l[j]? = some x) : isum (l.take (j + 1)) = isum (l.take j) + x := by
  have hj := lt_of_at h
  rw [List.take_succ_eq_append_getElem hj, isum_append]
  have : l[j] = x := by rw [List.getElem?_eq_getElem hj] at h; exact Option.some.inj h
  simp [isum, this]
theorem isum_bnd {l : List Int} (h : ∀ x ∈ l, -50 ≤ x ∧ x ≤ 50) : -50 * (l.length : Int) ≤ isum l ∧ isum l ≤ 50 * (l.length : Int) := by
  induction l with
  | nil => simp [isum]
  | cons x r ih =>
    have := ih (fun y hy => h y (List.mem_cons_of_mem _ hy))
    have := h x (List.mem_cons_self ..)
    simp only [isum, List.length_cons]
    omega
def colW (b : Bog) (c : Nat) (n : Int) : Int := isum ((b.worth.getD c []).take n.toNat)
def wsum (b : Bog) (h : List Int) : Nat → Int
  | 0 => 0
  | c + 1 => wsum b h c + colW b c (gi h c)
theorem col_of {b : Bog} {c : Nat} {x : List Int} (h : b.worth[c]? = some x) (n : Int) : colW b c n = isum (x.take n.toNat) := by simp [colW, List.getD, h]
theorem colW_bnd {b : Bog} (hb : Ok b) (c : Nat) (n : Int) : -200 ≤ colW b c n ∧ colW b c n ≤ 200 := by
  unfold colW
  have : ∀ x ∈ (b.worth.getD c []).take n.toNat, -50 ≤ x ∧ x ≤ 50 := fun x hx => by
    have hx := List.mem_of_mem_take hx
    by_cases hc : c < b.worth.length
    · have : b.worth.getD c [] = b.worth[c] := by simp [List.getD, hc]
      rw [this] at hx
      exact (hb.col _ (List.getElem_mem hc)).2 x hx
    · have : b.worth.getD c [] = [] := by simp [List.getD]; rw [List.getElem?_eq_none (by omega)]; rfl
      rw [this] at hx; cases hx
  have h1 := isum_bnd this
  have h2 : ((b.worth.getD c []).take n.toNat).length ≤ 4 := by
    rw [List.length_take]
    by_cases hc : c < b.worth.length
    · have e : b.worth.getD c [] = b.worth[c] := by simp [List.getD, hc]
      have := (hb.col _ (List.getElem_mem hc)).1
      have := hb.d4
      rw [e]; omega
    · have : b.worth.getD c [] = [] := by simp [List.getD]; rw [List.getElem?_eq_none (by omega)]; rfl
      rw [this]; simp
  omega
theorem wsum_bnd {b : Bog} (hb : Ok b) (h : List Int) : ∀ c : Nat, -200 * (c : Int) ≤ wsum b h c ∧ wsum b h c ≤ 200 * (c : Int)
  | 0 => by simp [wsum]
  | c + 1 => by
    have h1 := wsum_bnd hb h c
    have h2 := colW_bnd hb c (gi h c)
    simp only [wsum]
    omega
theorem worth_eq {b : Bog} {h : List Int} (hb : Ok b) (ho : okL b h = true) : cut_worth b h = some (wsum b h h.length) := by
  have ⟨hl, hx⟩ := okL_iff.1 ho
  have h6 := hb.n6
  unfold cut_worth
  refine Eq.trans (for_loop0 h.length (wsum b h) (fun n s i => cut_worth_L2 b h n s i) (some (wsum b h h.length)) (fun n i hi => ?_) (fun n => ?_) (by omega)) rfl
  · have hv : h[i]? = some h[i] := by simp [hi]
    have hc : b.worth[i]? = some b.worth[i] := List.getElem?_eq_getElem (by omega)
    have hcol := hb.col b.worth[i] (List.getElem_mem _)
    have hxi := hx h[i] (List.getElem_mem _)
    have hd := hb.d4
    show cut_worth_B2 b h (cut_worth_L2 b h n) _ _ = _
    unfold cut_worth_B2
    rw [if_pos (by omega), ix_nat hv, ix_nat hc, gd_pos (by omega)]
    have hlen : (List.take (Int.toNat h[i]) b.worth[i]).length = (h[i]).toNat := by rw [List.length_take]; omega
    have hws := wsum_bnd hb h i
    refine Eq.trans (for0 (List.take (Int.toNat h[i]) b.worth[i]).length (fun j => wsum b h i + isum ((List.take (Int.toNat h[i]) b.worth[i]).take j)) (fun m s j => cut_worth_L1 i (cut_worth_L2 b h n) h[i] b.worth[i] m s j) (cut_worth_L2 b h n (wsum b h (i + 1)) ((i + 1 : Nat) : Int)) (by simp [isum]) (fun m j hj => ?_) (fun m => ?_) (by omega)) rfl
    · have hw : (List.take (Int.toNat h[i]) b.worth[i])[j]? = some (List.take (Int.toNat h[i]) b.worth[i])[j] := by simp only [List.getElem?_eq_getElem hj]
      have hs := isum_bnd (l := (List.take (Int.toNat h[i]) b.worth[i]).take j) (fun x hm => hcol.2 x (List.mem_of_mem_take (List.mem_of_mem_take hm)))
      have hwb := hcol.2 _ (List.mem_of_mem_take (List.getElem_mem hj))
      have hjl : (List.take j (List.take (Int.toNat h[i]) b.worth[i])).length ≤ 4 := by rw [List.length_take]; omega
      show cut_worth_B1 i (cut_worth_L2 b h n) h[i] b.worth[i] (cut_worth_L1 i (cut_worth_L2 b h n) h[i] b.worth[i] m) _ _ = _
      unfold cut_worth_B1
      rw [if_pos (by omega), ix_nat hw, gd_pos (by omega), gd_pos (by omega), isum_take hw, Int.add_assoc]
      rfl
    · show cut_worth_B1 i (cut_worth_L2 b h n) h[i] b.worth[i] (cut_worth_L1 i (cut_worth_L2 b h n) h[i] b.worth[i] m) _ _ = _
      unfold cut_worth_B1
      rw [if_neg (by omega)]
      unfold cut_worth_k2
      rw [gd_pos (by omega), List.take_length]
      show cut_worth_L2 b h n _ _ = cut_worth_L2 b h n (wsum b h i + colW b i (gi h i)) _
      rw [gi_of hv, col_of hc]
      rfl
  · show cut_worth_B2 b h (cut_worth_L2 b h n) _ _ = _
    unfold cut_worth_B2
    rw [if_neg (by omega)]; rfl
def longB (b : Bog) (ls : List (List Int)) : Bool := !(ls.all fun l => !decide ((100 : Int) < l.length)) || (!(b.worth.all fun l => !decide ((50 : Int) < l.length)) || decide ((50 : Int) < b.worth.length))
theorem Long_eq {b : Bog} {ls : List (List Int)} (h1 : ls.length ≤ 9223372036854775807) (h2 : b.worth.length ≤ 9223372036854775807) : law04_Long b ls = some (longB b ls) := by
  unfold law04_Long longB
  rw [list_loop0 ls (fun l => !decide ((100 : Int) < l.length)) (law04_Long_L2 b ls) (law04_Long_k2 b) (some true) (fun n i x hx => ?_) (fun n => ?_) h1]
  · cases ls.all fun l => !decide ((100 : Int) < l.length)
    · simp
    · simp only [if_true, Bool.not_true, Bool.false_or]
      unfold law04_Long_k2
      rw [list_loop0 b.worth (fun l => !decide ((50 : Int) < l.length)) (law04_Long_L1 b) (law04_Long_k1 b) (some true) (fun n i x hx => ?_) (fun n => ?_) h2]
      · cases b.worth.all fun l => !decide ((50 : Int) < l.length)
        · simp
        · simp [law04_Long_k1]
      · have := lt_of_at hx
        show law04_Long_B1 b (law04_Long_L1 b n) _ = _
        unfold law04_Long_B1
        rw [if_pos (by omega), ix_nat hx, gd_pos (by omega)]
        by_cases h : (50 : Int) < x.length <;> simp [h]
      · show law04_Long_B1 b (law04_Long_L1 b n) _ = _
        unfold law04_Long_B1
        rw [if_neg (by omega)]
  · have := lt_of_at hx
    show law04_Long_B2 b ls (law04_Long_L2 b ls n) _ = _
    unfold law04_Long_B2
    rw [if_pos (by omega), ix_nat hx, gd_pos (by omega)]
    by_cases h : (100 : Int) < x.length <;> simp [h]
  · show law04_Long_B2 b ls (law04_Long_L2 b ls n) _ = _
    unfold law04_Long_B2
    rw [if_neg (by omega)]
theorem long_short {b : Bog} {ls : List (List Int)} (h : longB b ls = false) : Short b ∧ ∀ l ∈ ls, l.length ≤ 100 := by
  unfold longB at h
  simp only [Bool.or_eq_false_iff, Bool.not_eq_false', List.all_eq_true, Bool.not_eq_true', decide_eq_false_iff_not] at h
  obtain ⟨h1, h2, h3⟩ := h
  exact ⟨⟨by omega, fun c hc => by have := h2 c hc; omega⟩, fun l hl => by have := h1 l hl; omega⟩
end Go.D4

set_option linter.unusedVariables false
set_option linter.unusedSimpArgs false
namespace Go.D4
open Go.Tb
theorem Clone_eq {l : List Int} (h : l.length ≤ 1000000) : slices_Clone_int l = some l := by
  unfold slices_Clone_int
  rw [gd_pos (by simpa using h)]; rfl
def bump (h : List Int) (c : Nat) : List Int := h.set c (gi h c + 1)
def openB (b : Bog) (h : List Int) (c : Nat) : Bool := decide (gi h c + 1 ≤ dep b) && rightB (bump h c)
theorem gi_mem {h : List Int} {c : Nat} (hc : c < h.length) : gi h c ∈ h := by
  have : h[c]? = some h[c] := by simp [hc]
  rw [gi_of this]; exact List.getElem_mem hc
theorem gi_at {h : List Int} {c : Nat} (hc : c < h.length) : h[c]? = some (gi h c) := by
  have : h[c]? = some h[c] := by simp [hc]
  rw [gi_of this]; exact this
theorem SameInts_self {l : List Int} (hl : l.length ≤ 1000000) : ref04_SameInts l l = some true := by
  unfold ref04_SameInts
  rw [if_pos rfl, list_loop0 l (fun _ => true) (ref04_SameInts_L1 l l) (some true) (some false) (fun n i x hx => ?_) (fun n => ?_) (by omega)]
  · simp
  · have := lt_of_at hx
    show ref04_SameInts_B1 l l (ref04_SameInts_L1 l l n) _ = _
    unfold ref04_SameInts_B1
    rw [if_pos (by omega), ix_nat hx, ix_nat hx, if_pos rfl, gd_pos (by omega), if_pos rfl]; rfl
  · show ref04_SameInts_B1 l l (ref04_SameInts_L1 l l n) _ = _
    unfold ref04_SameInts_B1
    rw [if_neg (by omega)]; rfl
theorem bump_hollow {b : Bog} {h : List Int} (hb : Ok b) (ho : okL b h = true) {c : Nat} (hc : c < h.length) (hop : openB b h c = true) : hollowE b (bump h c) = 0 := by
  unfold openB at hop
  simp only [Bool.and_eq_true, decide_eq_true_eq] at hop
  refine hollow0.2 ⟨hb, okL_iff.2 ⟨by simp [bump, (okL_iff.1 ho).1], fun x hx => ?_⟩, hop.2⟩
  unfold bump at hx
  rcases List.mem_or_eq_of_mem_set hx with h1 | h1
  · exact (okL_iff.1 ho).2 x h1
  · have := (okL_iff.1 ho).2 _ (gi_mem hc)
    omega
end Go.D4

set_option linter.unusedVariables false
set_option linter.unusedSimpArgs false
namespace Go.D4
open Go.Tb
def inCols (b : Bog) (c : Int) : Bool := within c 0 ((b.worth.length : Int) - 1)
/-- The hollow after the first i columns of an order (a column that is not open changes nothing). -/
def ordN (b : Bog) (o : List Int) : Nat → List Int
  | 0 => List.replicate b.worth.length 0
  | i + 1 => if openB b (ordN b o i) (gi o i).toNat = true then bump (ordN b o i) (gi o i).toNat else ordN b o i
theorem okL_zero {b : Bog} (hb : Ok b) : okL b (List.replicate b.worth.length 0) = true :=
  okL_iff.2 ⟨by simp, fun x hx => by have := List.eq_of_mem_replicate hx; have := hb.d1; omega⟩
def ordP (b : Bog) (o : List Int) (i : Nat) : Bool := openB b (ordN b o i) (gi o i).toNat
end Go.D4

set_option linter.unusedVariables false
set_option linter.unusedSimpArgs false
namespace Go.D4
open Go.Tb
theorem zw_at {f : Int → Int → Int} {h k : List Int} {i : Nat} {x y : Int} (hx : h[i]? = some x) (hy : k[i]? = some y) : (List.zipWith f h k)[i]? = some (f x y) := by
  rw [List.getElem?_zipWith, hx, hy]
theorem zw_gi {f : Int → Int → Int} {h k : List Int} (hl : k.length = h.length) {i : Nat} (hi : i < h.length) : gi (List.zipWith f h k) i = f (gi h i) (gi k i) :=
  gi_of (zw_at (gi_at hi) (gi_at (by omega)))
theorem joined_eq {h k : List Int} {F : Int → Int → Option Int} {f : Int → Int → Int} (hF : ∀ x y, F x y = some (f x y)) (hl : k.length = h.length) (hn : h.length ≤ 1000) : cut_joined h k F = some (List.zipWith f h k) := by
  unfold cut_joined
  have hzl : (List.zipWith f h k).length = h.length := by simp; omega
  refine Eq.trans (for0 h.length (fun i => (List.zipWith f h k).take i) (fun n s i => cut_joined_L1 h k F n i s) (some (List.zipWith f h k)) (by simp) (fun n i hi => ?_) (fun n => ?_) (by omega)) rfl
  · show cut_joined_B1 h k F (cut_joined_L1 h k F n) _ _ = _
    unfold cut_joined_B1
    have hz := zw_at (f := f) (gi_at hi) (gi_at (h := k) (c := i) (by omega))
    have e : (List.zipWith f h k).take (i + 1) = (List.zipWith f h k).take i ++ [f (gi h i) (gi k i)] := by
      rw [List.take_add_one, hz]; rfl
    rw [if_pos (by omega), ix_nat (gi_at hi), ix_nat (gi_at (by omega)), bnd_eq (hF _ _), gd_pos (by simp; omega), gd_pos (by omega), e]; rfl
  · show cut_joined_B1 h k F (cut_joined_L1 h k F n) _ _ = _
    unfold cut_joined_B1
    rw [if_neg (by omega)]
    unfold cut_joined_k1
    rw [List.take_of_length_le (by omega)]
theorem smaller_eq (x y : Int) : cut_smaller x y = some (min x y) := rfl
theorem greater_eq (x y : Int) : cut_greater x y = some (max x y) := rfl
theorem lens {b : Bog} {h k : List Int} (h0 : hollowE b h = 0) (k0 : hollowE b k = 0) : k.length = h.length ∧ h.length ≤ 6 := by
  have ⟨hb, ho, _⟩ := hollow0.1 h0
  have ⟨_, ko, _⟩ := hollow0.1 k0
  have := (okL_iff.1 ho).1; have := (okL_iff.1 ko).1; have := hb.n6
  omega
theorem zw_self {f : Int → Int → Int} (hf : ∀ x, f x x = x) : ∀ h : List Int, List.zipWith f h h = h
  | [] => rfl
  | x :: r => by simp [hf, zw_self hf r]
theorem rightB_iff {h : List Int} : rightB h = true ↔ ∀ j, j < h.length → 1 ≤ j → -1 ≤ gi h j - gi h (j - 1) ∧ gi h j - gi h (j - 1) ≤ 1 := by
  unfold rightB
  simp only [decide_eq_true_eq, within_iff]
theorem hollow_zip {b : Bog} {h k : List Int} {f : Int → Int → Int} (hf : (∀ x y, f x y = min x y) ∨ (∀ x y, f x y = max x y)) (h0 : hollowE b h = 0) (k0 : hollowE b k = 0) : hollowE b (List.zipWith f h k) = 0 := by
  have ⟨l1, l2⟩ := lens h0 k0
  have ⟨hb, ho, hr⟩ := hollow0.1 h0
  have ⟨_, ko, kr⟩ := hollow0.1 k0
  have hzl : (List.zipWith f h k).length = h.length := by simp; omega
  refine hollow0.2 ⟨hb, okL_iff.2 ⟨by rw [hzl]; exact (okL_iff.1 ho).1, fun x hx => ?_⟩, rightB_iff.2 fun j hj h1 => ?_⟩
  · obtain ⟨i, hi⟩ := List.getElem?_of_mem hx
    have hlt := lt_of_at hi
    rw [zw_at (gi_at (by omega)) (gi_at (by omega))] at hi
    have e := Option.some.inj hi
    have b1 := (okL_iff.1 ho).2 _ (gi_mem (h := h) (c := i) (by omega))
    have b2 := (okL_iff.1 ko).2 _ (gi_mem (h := k) (c := i) (by omega))
    rcases hf with hf | hf <;> rw [hf] at e <;> omega
  · rw [hzl] at hj
    have r1 := rightB_iff.1 hr j hj h1
    have r2 := rightB_iff.1 kr j (by omega) h1
    rw [zw_gi l1 hj, zw_gi l1 (by omega)]
    rcases hf with hf | hf <;> rw [hf, hf] <;> omega
theorem colW_mm (b : Bog) (c : Nat) (x y : Int) : colW b c (min x y) + colW b c (max x y) = colW b c x + colW b c y := by
  by_cases h : x ≤ y
  · rw [show min x y = x by omega, show max x y = y by omega]
  · rw [show min x y = y by omega, show max x y = x by omega]; omega
theorem wsum_mm {b : Bog} {h k : List Int} (hl : k.length = h.length) : ∀ i, i ≤ h.length → wsum b (List.zipWith min h k) i + wsum b (List.zipWith max h k) i = wsum b h i + wsum b k i
  | 0, _ => rfl
  | i + 1, hi => by
    have ih := wsum_mm (b := b) hl i (by omega)
    have := colW_mm b i (gi h i) (gi k i)
    simp only [wsum]
    rw [zw_gi hl (by omega), zw_gi hl (by omega)]
    omega
end Go.D4

set_option linter.unusedVariables false
set_option linter.unusedSimpArgs false
namespace Go.D4
open Go.Tb
structure Inv (b : Bog) (h at_ : List Int) (r : Nat) : Prop where
  ok : Ok b
  lh : okL b h = true
  rh : rightB h = true
  la : okL b at_ = true
  ra : rightB at_ = true
  le : ∀ c, c < h.length → gi at_ c ≤ gi h c
  r_ : isum h - isum at_ = (r : Int)
theorem Inv.len {b : Bog} {h at_ : List Int} {r : Nat} (i : Inv b h at_ r) : at_.length = h.length ∧ h.length ≤ 6 := by
  have := (okL_iff.1 i.lh).1; have := (okL_iff.1 i.la).1; have := i.ok.n6
  omega
theorem isum_bump : ∀ {l : List Int} {c : Nat}, c < l.length → isum (bump l c) = isum l + 1
  | x :: r, 0, _ => by simp [bump, isum, gi]; omega
  | x :: r, c + 1, h => by
    have := isum_bump (l := r) (c := c) (by simpa using h)
    simp only [bump, isum, List.set_cons_succ] at this ⊢
    have e : gi (x :: r) (c + 1) = gi r c := by simp [gi, List.getD]
    rw [e]; omega
theorem isum_le : ∀ {l m : List Int}, l.length = m.length → (∀ c, c < m.length → gi l c ≤ gi m c) → isum l ≤ isum m ∧ (isum l = isum m → l = m)
  | [], [], _, _ => by simp
  | x :: r, y :: s, hl, h => by
    have h0 := h 0 (by simp)
    have ih := isum_le (l := r) (m := s) (by simpa using hl) (fun c hc => by
      have := h (c + 1) (by simpa using hc)
      simpa [gi, List.getD] using this)
    simp only [gi, List.getD, List.getElem?_cons_zero, Option.getD_some] at h0
    simp only [isum]
    refine ⟨by omega, fun e => ?_⟩
    have e1 : x = y := by omega
    have e2 := ih.2 (by omega)
    rw [e1, e2]
theorem gi_bump {l : List Int} {c j : Nat} (hc : c < l.length) : gi (bump l c) j = if j = c then gi l c + 1 else gi l j := by
  unfold bump gi
  simp only [List.getD, List.getElem?_set]
  by_cases h : c = j
  · subst h; simp [hc]
  · rw [if_neg h, if_neg (fun e => h e.symm)]
theorem Inv.next {b : Bog} {h at_ : List Int} {r c : Nat} (i : Inv b h at_ (r + 1)) (hc : c < at_.length) (hlt : gi at_ c < gi h c) (hop : openB b at_ c = true) : Inv b h (bump at_ c) r := by
  have hh := hollow0.1 (bump_hollow i.ok i.la hc hop)
  refine ⟨i.ok, i.lh, i.rh, hh.2.1, hh.2.2, fun j hj => ?_, ?_⟩
  · rw [gi_bump hc]
    split
    · rename_i e; subst e; omega
    · exact i.le j hj
  · rw [isum_bump hc]; have := i.r_; omega
theorem Inv.zero {b : Bog} {h : List Int} (h0 : hollowE b h = 0) : Inv b h (List.replicate h.length 0) (isum h).toNat ∧ (isum h).toNat ≤ 24 := by
  have ⟨hb, ho, hr⟩ := hollow0.1 h0
  have ⟨hl, hx⟩ := okL_iff.1 ho
  have g0 : ∀ c, gi (List.replicate h.length 0) c = 0 := fun c => by
    unfold gi; simp only [List.getD, List.getElem?_replicate]; split <;> rfl
  have s0 : ∀ n, isum (List.replicate n 0) = 0 := fun n => by
    induction n with
    | zero => rfl
    | succ n ih => simp [List.replicate_succ, isum, ih]
  have nn : 0 ≤ isum h ∧ isum h ≤ 4 * (h.length : Int) := by
    have hd := hb.d4
    clear hl ho hr h0 g0
    induction h with
    | nil => simp [isum]
    | cons x r ih =>
      have := ih (fun y hy => hx y (List.mem_cons_of_mem _ hy))
      have := hx x (List.mem_cons_self ..)
      simp only [isum, List.length_cons]; omega
  have h6 := hb.n6
  refine ⟨⟨hb, ho, hr, by rw [hl]; exact okL_zero hb, rightB_iff.2 fun j hj h1 => by rw [g0, g0]; omega, fun c hc => ?_, ?_⟩, by omega⟩
  · rw [g0]; exact (hx _ (gi_mem hc)).1
  · rw [s0]; omega
theorem Inv.done {b : Bog} {h at_ : List Int} (i : Inv b h at_ 0) : at_ = h := by
  have ⟨hl, _⟩ := i.len
  exact (isum_le hl i.le).2 (by have := i.r_; omega)
end Go.D4

set_option linter.unusedVariables false
set_option linter.unusedSimpArgs false
namespace Go.D4
open Go.Tb
/-- What is known of an order that has been made so far. -/
structure Led (b : Bog) (out at_ : List Int) : Prop where
  cols : ∀ x ∈ out, inCols b x = true
  all : ∀ j, j < out.length → ordP b out j = true
  to : ordN b out out.length = at_
theorem ordN_pre {b : Bog} {o s : List Int} : ∀ i, i ≤ o.length → ordN b (o ++ s) i = ordN b o i
  | 0, _ => rfl
  | i + 1, h => by
    have ih := ordN_pre (b := b) (o := o) (s := s) i (by omega)
    have e : gi (o ++ s) i = gi o i := by
      have hlt : i < o.length := by omega
      unfold gi
      simp only [List.getD, List.getElem?_append_left hlt]
    show (if openB b (ordN b (o ++ s) i) (gi (o ++ s) i).toNat = true then _ else _) = (if _ then _ else _)
    rw [ih, e]
theorem Led.next {b : Bog} {out at_ : List Int} {c : Nat} (l : Led b out at_) (hc : c < b.worth.length) (hop : openB b at_ c = true) : Led b (out ++ [(c : Int)]) (bump at_ c) := by
  have e : gi (out ++ [(c : Int)]) out.length = (c : Int) := gi_of (by simp)
  have e2 : ordN b (out ++ [(c : Int)]) out.length = at_ := by rw [ordN_pre _ (Nat.le_refl _), l.to]
  refine ⟨fun x hx => ?_, fun j hj => ?_, ?_⟩
  · rcases List.mem_append.1 hx with h | h
    · exact l.cols x h
    · have : x = (c : Int) := by simpa using h
      rw [this]; exact within_iff.2 (by omega)
  · by_cases hjl : j < out.length
    · have h1 := l.all j hjl
      unfold ordP at h1 ⊢
      have e3 : gi (out ++ [(c : Int)]) j = gi out j := by
        unfold gi
        simp only [List.getD, List.getElem?_append_left hjl]
      rw [ordN_pre _ (by omega), e3]; exact h1
    · have : j = out.length := by simp at hj; omega
      subst this
      unfold ordP
      rw [e2, e]; exact hop
  · rw [List.length_append, List.length_singleton]
    show (if openB b (ordN b (out ++ [(c : Int)]) out.length) (gi (out ++ [(c : Int)]) out.length).toNat = true then _ else _) = _
    rw [e2, e]
    have et : ((c : Int)).toNat = c := by omega
    rw [et, if_pos hop]
end Go.D4

set_option linter.unusedVariables false
set_option linter.unusedSimpArgs false
namespace Go.D4
open Go.Tb
/-- A bog of n columns with d blocks each. -/
def shape (n d : Nat) : Bog := ⟨List.replicate n (List.replicate d 0)⟩
def a6 (x : Arr6) : List Int := [x.at0, x.at1, x.at2, x.at3, x.at4, x.at5]
def stepOk (h : List Int) (x : Int) : Bool := match h.getLast? with | none => true | some y => within (x - y) (-1) 1
def specL (d : Nat) : Nat → List (List Int)
  | 0 => [[]]
  | c + 1 => (specL d c).flatMap fun h => (((List.range (d + 1)).map fun (x : Nat) => (x : Int)).filter (stepOk h)).map fun x => h ++ [x]
def agree (n d : Nat) : Bool := match cut_all (shape n d) with
  | some l => l.map (fun x => (a6 x).take n) == specL d n
  | none => false
end Go.D4

set_option linter.unusedVariables false
set_option linter.unusedSimpArgs false
namespace Go.D4
open Go.Tb
section
variable {a b : Bog} (hw : a.worth.length = b.worth.length) (hd : cut_depth a = cut_depth b)
include hw hd
theorem all_k1 (l1 : List Arr6) (l2 : List Int) (rec1 : List Arr6 → List Int → Option (List Arr6)) : cut_all_k1 a l1 l2 rec1 = cut_all_k1 b l1 l2 rec1 := by
  unfold cut_all_k1; simp only [hw, hd]
theorem all_L1 (l1 : List Arr6) (l2 : List Int) (rec1 : List Arr6 → List Int → Option (List Arr6)) : ∀ n t, cut_all_L1 a l1 l2 rec1 n t = cut_all_L1 b l1 l2 rec1 n t
  | 0, t => rfl
  | n + 1, t => by
    show cut_all_B1 a l1 l2 rec1 (cut_all_L1 a l1 l2 rec1 n) t = cut_all_B1 b l1 l2 rec1 (cut_all_L1 b l1 l2 rec1 n) t
    have e : cut_all_L1 a l1 l2 rec1 n = cut_all_L1 b l1 l2 rec1 n := funext fun t => all_L1 l1 l2 rec1 n t
    rw [e]
    unfold cut_all_B1
    simp only [hw, hd, all_k1 hw hd]
theorem all_L2 : ∀ n l1 l2, cut_all_L2 a n l1 l2 = cut_all_L2 b n l1 l2
  | 0, l1, l2 => rfl
  | n + 1, l1, l2 => by
    show cut_all_B2 a (cut_all_L2 a n) l1 l2 = cut_all_B2 b (cut_all_L2 b n) l1 l2
    have e : cut_all_L2 a n = cut_all_L2 b n := funext fun l1 => funext fun l2 => all_L2 n l1 l2
    rw [e]
    unfold cut_all_B2
    rw [all_L1 hw hd]
theorem all_congr : cut_all a = cut_all b := all_L2 hw hd FU _ _
end
theorem shape_depth {n d : Nat} (hn : 1 ≤ n) : cut_depth (shape n d) = some (d : Int) := by
  have hx : (shape n d).worth[0]? = some (List.replicate d 0) := by unfold shape; simp only [List.getElem?_replicate]; rw [if_pos (by omega)]
  unfold cut_depth
  rw [ix0 hx]; simp
theorem all_shape {b : Bog} (hb : Ok b) : cut_all b = cut_all (shape b.worth.length (dep b).toNat) :=
  all_congr (by simp [shape]) (by rw [depth_eq hb.n1, shape_depth hb.n1, show (((dep b).toNat : Nat) : Int) = dep b by have := hb.d1; omega])
theorem mem_spec {d : Nat} : ∀ (c : Nat) (h : List Int), h ∈ specL d c ↔ h.length = c ∧ (∀ x ∈ h, 0 ≤ x ∧ x ≤ (d : Int)) ∧ rightB h = true
  | 0, h => by
    simp only [specL, List.mem_singleton]
    constructor
    · rintro rfl; exact ⟨rfl, by simp, by decide⟩
    · rintro ⟨h1, _, _⟩; exact List.length_eq_zero_iff.1 h1
  | c + 1, h => by
    have ih := mem_spec (d := d) c
    have key : ∀ (g : List Int) (x : Int), g.length = c → (rightB (g ++ [x]) = true ↔ rightB g = true ∧ stepOk g x = true) := fun g x hg => by
      have g1 : ∀ j, j < g.length → gi (g ++ [x]) j = gi g j := fun j hj => by
        unfold gi
        simp only [List.getD, List.getElem?_append_left hj]
      have g2 : gi (g ++ [x]) g.length = x := gi_of (by simp)
      have hs : stepOk g x = true ↔ (1 ≤ g.length → -1 ≤ x - gi g (g.length - 1) ∧ x - gi g (g.length - 1) ≤ 1) := by
        unfold stepOk
        cases hl : g.getLast? with
        | none => have := List.getLast?_eq_none_iff.1 hl; subst this; simp
        | some y =>
          rw [List.getLast?_eq_getElem?] at hl
          have hlt := lt_of_at hl
          rw [gi_of hl]
          simp only [within_iff]
          exact ⟨fun h _ => h, fun h => h (by omega)⟩
      rw [rightB_iff, rightB_iff, hs]
      constructor
      · intro h
        refine ⟨fun j hj h1 => ?_, fun h1 => ?_⟩
        · have := h j (by simp; omega) h1
          rw [g1 j hj, g1 (j - 1) (by omega)] at this; exact this
        · have := h g.length (by simp) h1
          rw [g2, g1 (g.length - 1) (by omega)] at this; exact this
      · rintro ⟨h1, h2⟩ j hj h3
        by_cases e : j = g.length
        · subst e
          rw [g2, g1 (g.length - 1) (by omega)]; exact h2 h3
        · have hj' : j < g.length := by simp at hj; omega
          rw [g1 j hj', g1 (j - 1) (by omega)]; exact h1 j hj' h3
    simp only [specL, List.mem_flatMap, List.mem_map, List.mem_filter, List.mem_range]
    constructor
    · rintro ⟨g, hg, x, ⟨⟨y, hy, rfl⟩, hst⟩, rfl⟩
      obtain ⟨h1, h2, h3⟩ := (ih g).1 hg
      refine ⟨by simp [h1], fun z hz => ?_, (key g _ h1).2 ⟨h3, hst⟩⟩
      rcases List.mem_append.1 hz with h | h
      · exact h2 z h
      · have : z = (y : Int) := by simpa using h
        omega
    · rintro ⟨h1, h2, h3⟩
      have hne : h ≠ [] := by intro e; rw [e] at h1; simp at h1
      have e := List.dropLast_concat_getLast hne
      have hl : h.dropLast.length = c := by simp [h1]
      have hlast := h2 (h.getLast hne) (List.getLast_mem hne)
      rw [← e] at h3
      obtain ⟨k1, k2⟩ := (key _ _ hl).1 h3
      refine ⟨h.dropLast, (ih _).2 ⟨hl, fun z hz => h2 z (by rw [List.dropLast_eq_take] at hz; exact List.mem_of_mem_take hz), k1⟩, h.getLast hne, ⟨⟨(h.getLast hne).toNat, by omega, by omega⟩, k2⟩, e⟩
end Go.D4

set_option linter.unusedVariables false
set_option linter.unusedSimpArgs false
namespace Go.D4
theorem agree_n {n d : Nat} (h1 : 1 ≤ n) (h2 : n ≤ 5) (h3 : 1 ≤ d) (h4 : d ≤ 4) : agree n d = true := by
  have e : ∀ n ∈ List.range' 1 5, ∀ d ∈ List.range' 1 4, agree n d = true := by decide +kernel
  exact e n (by rw [List.mem_range'_1]; omega) d (by rw [List.mem_range'_1]; omega)
end Go.D4

set_option linter.unusedVariables false
set_option linter.unusedSimpArgs false
namespace Go.D4
set_option maxHeartbeats 0 in
theorem agree_61 : agree 6 1 = true := by decide +kernel
set_option maxHeartbeats 0 in
theorem agree_62 : agree 6 2 = true := by decide +kernel
set_option maxHeartbeats 0 in
theorem agree_63 : agree 6 3 = true := by decide +kernel
set_option maxHeartbeats 0 in
theorem agree_64 : agree 6 4 = true := by decide +kernel
theorem agree_all {n d : Nat} (h1 : 1 ≤ n) (h2 : n ≤ 6) (h3 : 1 ≤ d) (h4 : d ≤ 4) : agree n d = true := by
  by_cases h : n = 6
  · subst h
    have : d = 1 ∨ d = 2 ∨ d = 3 ∨ d = 4 := by omega
    rcases this with rfl | rfl | rfl | rfl
    · exact agree_61
    · exact agree_62
    · exact agree_63
    · exact agree_64
  · exact agree_n h1 (by omega) h3 h4
end Go.D4

set_option linter.unusedVariables false
set_option linter.unusedSimpArgs false
namespace Go.D4
open Go.Tb
theorem hollow_list_eq {b : Bog} (hb : Ok b) (x : Arr6) : cut_hollow_list x b = some ((a6 x).take b.worth.length) := by
  have h6 := hb.n6
  have e : Int.toNat (b.worth.length : Int) = b.worth.length := by omega
  unfold cut_hollow_list
  rw [gd_pos (by omega), e, bnd_eq (Clone_eq (by rw [List.length_take]; omega))]; rfl
def W (b : Bog) (h : List Int) : Int := wsum b h h.length
/-- The right hollows of a bog. -/
def hollows (b : Bog) : List (List Int) := specL (dep b).toNat b.worth.length
theorem mem_hollows {b : Bog} (hb : Ok b) {h : List Int} : h ∈ hollows b ↔ hollowE b h = 0 := by
  have := hb.d1
  unfold hollows
  rw [mem_spec, hollow0, okL_iff, show (((dep b).toNat : Nat) : Int) = dep b by omega]
  exact ⟨fun ⟨h1, h2, h3⟩ => ⟨hb, ⟨h1, h2⟩, h3⟩, fun ⟨_, ⟨h1, h2⟩, h3⟩ => ⟨h1, h2, h3⟩⟩
theorem all_eq {b : Bog} (hb : Ok b) : ∃ l, cut_all b = some l ∧ l.map (fun x => (a6 x).take b.worth.length) = hollows b := by
  have ha := agree_all hb.n1 hb.n6 (d := (dep b).toNat) (by have := hb.d1; omega) (by have := hb.d4; omega)
  unfold agree at ha
  rw [← all_shape hb] at ha
  cases hl : cut_all b with
  | none => rw [hl] at ha; cases ha
  | some l => rw [hl] at ha; exact ⟨l, rfl, by unfold hollows; simpa using ha⟩
/-- The best worth and all hollows with it joined, after the first i hollows. -/
def bestN (f : Int → Int → Int) (b : Bog) (hs : List (List Int)) : Nat → List Int × Int
  | 0 => ([], 0)
  | i + 1 =>
    if i = 0 ∨ (bestN f b hs i).2 < W b (hs.getD i []) then (hs.getD i [], W b (hs.getD i []))
    else if W b (hs.getD i []) = (bestN f b hs i).2 then (List.zipWith f (bestN f b hs i).1 (hs.getD i []), (bestN f b hs i).2) else bestN f b hs i
def MM (f : Int → Int → Int) : Prop := (∀ x y, f x y = min x y) ∨ (∀ x y, f x y = max x y)
/-- What is known of it. -/
structure BInv (f : Int → Int → Int) (b : Bog) (hs : List (List Int)) (i : Nat) (s : List Int × Int) : Prop where
  hol : hollowE b s.1 = 0
  w : (∀ h, hollowE b h = 0 → W b h ≤ s.2) → W b s.1 = s.2
  top : ∀ h ∈ hs.take i, W b h ≤ s.2
  all : ∀ h ∈ hs.take i, W b h = s.2 → List.zipWith f s.1 h = s.1
theorem zw_idem {f : Int → Int → Int} (hf : MM f) (x : Int) : f x x = x := by
  rcases hf with h | h <;> rw [h] <;> omega
theorem zw_assoc {f : Int → Int → Int} (hf : MM f) : ∀ a c d : List Int, List.zipWith f (List.zipWith f a c) d = List.zipWith f a (List.zipWith f c d)
  | [], _, _ => by simp
  | _ :: _, [], _ => by simp
  | _ :: _, _ :: _, [] => by simp
  | x :: a, y :: c, z :: d => by
    simp only [List.zipWith_cons_cons, zw_assoc hf a c d]
    congr 1
    rcases hf with h | h <;> simp only [h] <;> omega
theorem zw_comm {f : Int → Int → Int} (hf : MM f) : ∀ a c : List Int, List.zipWith f a c = List.zipWith f c a
  | [], [] => rfl
  | [], _ :: _ => rfl
  | _ :: _, [] => rfl
  | x :: a, y :: c => by
    simp only [List.zipWith_cons_cons, zw_comm hf a c]
    congr 1
    rcases hf with h | h <;> simp only [h] <;> omega
theorem hollow_len {b : Bog} {h : List Int} (h0 : hollowE b h = 0) : h.length = b.worth.length := (okL_iff.1 (hollow0.1 h0).2.1).1
theorem W_mm {b : Bog} {h k : List Int} (h0 : hollowE b h = 0) (k0 : hollowE b k = 0) : W b (List.zipWith min h k) + W b (List.zipWith max h k) = W b h + W b k := by
  have l1 := hollow_len h0
  have l2 := hollow_len k0
  unfold W
  have e1 : (List.zipWith min h k).length = h.length := by simp; omega
  have e2 : (List.zipWith max h k).length = h.length := by simp; omega
  rw [e1, e2, show k.length = h.length by omega]
  exact wsum_mm (by omega) _ (Nat.le_refl _)
theorem binv {f : Int → Int → Int} (hf : MM f) {b : Bog} (hb : Ok b) : ∀ i, i + 1 ≤ (hollows b).length → BInv f b (hollows b) (i + 1) (bestN f b (hollows b) (i + 1))
  | 0, hi => by
    have hx : (hollows b)[0]? = some (hollows b)[0] := by simp
    have e : (hollows b).getD 0 [] = (hollows b)[0] := by simp [List.getD, hx]
    have hm := (mem_hollows hb).1 (List.getElem_mem (l := hollows b) (n := 0) (by omega))
    have e1 : bestN f b (hollows b) 1 = ((hollows b)[0], W b (hollows b)[0]) := by
      show (if 0 = 0 ∨ _ then _ else _) = _
      rw [if_pos (.inl rfl), e]
    have et : (hollows b).take 1 = [(hollows b)[0]] := by rw [List.take_add_one, hx]; rfl
    rw [e1]
    refine ⟨hm, fun _ => rfl, ?_, ?_⟩
    · intro h hh; rw [et] at hh; have := List.mem_singleton.1 hh; subst this; exact Int.le_refl _
    · intro h hh _; rw [et] at hh; have := List.mem_singleton.1 hh; subst this; exact zw_self (zw_idem hf) _
  | i + 1, hi => by
    have ih := binv hf hb i (by omega)
    generalize hs : bestN f b (hollows b) (i + 1) = s at ih
    have hlt : i + 1 < (hollows b).length := by omega
    have hx : (hollows b)[i + 1]? = some (hollows b)[i + 1] := by simp [hlt]
    generalize hk : (hollows b)[i + 1] = k at hx
    have e : (hollows b).getD (i + 1) [] = k := by simp [List.getD, hx]
    have km := (mem_hollows hb).1 (List.mem_of_getElem? hx)
    have et : (hollows b).take (i + 1 + 1) = (hollows b).take (i + 1) ++ [k] := by rw [List.take_add_one, hx]; rfl
    have mem : ∀ h, h ∈ (hollows b).take (i + 1 + 1) → h ∈ (hollows b).take (i + 1) ∨ h = k := fun h hh => by
      rw [et] at hh
      rcases List.mem_append.1 hh with h1 | h1
      · exact .inl h1
      · exact .inr (List.mem_singleton.1 h1)
    show BInv f b (hollows b) (i + 1 + 1) (if i + 1 = 0 ∨ (bestN f b (hollows b) (i + 1)).2 < W b ((hollows b).getD (i + 1) []) then _ else _)
    rw [hs, e]
    by_cases h1 : s.2 < W b k
    · rw [if_pos (.inr h1)]
      refine ⟨km, fun _ => rfl, fun h hh => ?_, fun h hh hw => ?_⟩
      · rcases mem h hh with h2 | rfl
        · have := ih.top h h2; simp only; omega
        · exact Int.le_refl _
      · rcases mem h hh with h2 | rfl
        · have := ih.top h h2; simp only at hw; omega
        · exact zw_self (zw_idem hf) _
    · rw [if_neg (by omega)]
      by_cases h2 : W b k = s.2
      · rw [if_pos h2]
        have hz := hollow_zip (f := f) hf ih.hol km
        have hmm := W_mm ih.hol km
        have m1 := hollow_zip (f := min) (.inl fun _ _ => rfl) ih.hol km
        have m2 := hollow_zip (f := max) (.inr fun _ _ => rfl) ih.hol km
        refine ⟨hz, fun hM => ?_, fun h hh => ?_, fun h hh hw => ?_⟩
        · have w0 := ih.w hM
          have q1 := hM _ m1
          have q2 := hM _ m2
          simp only at q1 q2 ⊢
          rcases hf with hff | hff
          · have e3 : List.zipWith f s.1 k = List.zipWith min s.1 k := by congr 1; funext x y; exact hff x y
            rw [e3]; omega
          · have e3 : List.zipWith f s.1 k = List.zipWith max s.1 k := by congr 1; funext x y; exact hff x y
            rw [e3]; omega
        · rcases mem h hh with h3 | rfl
          · exact ih.top h h3
          · simp only; omega
        · simp only at hw ⊢
          rcases mem h hh with h3 | rfl
          · rw [zw_assoc hf, zw_comm hf k h, ← zw_assoc hf, ih.all h h3 hw]
          · rw [zw_assoc hf, zw_self (zw_idem hf)]
      · rw [if_neg h2]
        refine ⟨ih.hol, ih.w, fun h hh => ?_, fun h hh hw => ?_⟩
        · rcases mem h hh with h3 | rfl
          · exact ih.top h h3
          · omega
        · rcases mem h hh with h3 | rfl
          · exact ih.all h h3 hw
          · exact absurd hw h2
theorem ix6 {R : Type} (x : Arr6) {k : Int → Int → Int → Int → Int → Int → Option R} :
    (gd ((([x.at0, x.at1, x.at2, x.at3, x.at4, x.at5] : List Int)).length = 6) <|
    ix (([x.at0, x.at1, x.at2, x.at3, x.at4, x.at5] : List Int)) 0 fun x2 =>
    ix (([x.at0, x.at1, x.at2, x.at3, x.at4, x.at5] : List Int)) 1 fun x3 =>
    ix (([x.at0, x.at1, x.at2, x.at3, x.at4, x.at5] : List Int)) 2 fun x4 =>
    ix (([x.at0, x.at1, x.at2, x.at3, x.at4, x.at5] : List Int)) 3 fun x5 =>
    ix (([x.at0, x.at1, x.at2, x.at3, x.at4, x.at5] : List Int)) 4 fun x6 =>
    ix (([x.at0, x.at1, x.at2, x.at3, x.at4, x.at5] : List Int)) 5 fun x7 => k x2 x3 x4 x5 x6 x7) = k x.at0 x.at1 x.at2 x.at3 x.at4 x.at5 := by
  rw [gd_pos (by simp), ix_eq (i := 0) (by decide) rfl, ix_eq (i := 1) (by decide) rfl, ix_eq (i := 2) (by decide) rfl, ix_eq (i := 3) (by decide) rfl, ix_eq (i := 4) (by decide) rfl, ix_eq (i := 5) (by decide) rfl]
theorem spec_len (d : Nat) : ∀ c, (specL d c).length ≤ (d + 1) ^ c
  | 0 => by simp [specL]
  | c + 1 => by
    have ih := spec_len d c
    have e : ∀ l : List (List Int), (l.flatMap fun h => (((List.range (d + 1)).map fun (x : Nat) => (x : Int)).filter (stepOk h)).map fun x => h ++ [x]).length ≤ l.length * (d + 1) := fun l => by
      induction l with
      | nil => simp
      | cons h r ih =>
        simp only [List.flatMap_cons, List.length_append, List.length_map, List.length_cons]
        have := List.length_filter_le (stepOk h) ((List.range (d + 1)).map fun (x : Nat) => (x : Int))
        simp only [List.length_map, List.length_range] at this
        rw [Nat.succ_mul]; omega
    simp only [specL]
    refine Nat.le_trans (e _) ?_
    rw [Nat.pow_succ]
    exact Nat.mul_le_mul_right _ ih
theorem hollows_len {b : Bog} (hb : Ok b) : (hollows b).length ≤ 15625 ∧ 1 ≤ (hollows b).length := by
  constructor
  · have h1 := spec_len (dep b).toNat b.worth.length
    have h2 : ((dep b).toNat + 1) ^ b.worth.length ≤ 5 ^ b.worth.length := Nat.pow_le_pow_left (by have := hb.d4; omega) _
    have h3 : 5 ^ b.worth.length ≤ 5 ^ 6 := Nat.pow_le_pow_right (by omega) hb.n6
    unfold hollows; omega
  · have h0 : hollowE b (List.replicate b.worth.length 0) = 0 := hollow0.2 ⟨hb, okL_zero hb, rightB_iff.2 fun j hj h1 => by
      have g0 : ∀ c, gi (List.replicate b.worth.length 0) c = 0 := fun c => by
        unfold gi; simp only [List.getD, List.getElem?_replicate]; split <;> rfl
      rw [g0, g0]; omega⟩
    exact List.length_pos_of_mem ((mem_hollows hb).2 h0)
theorem best_eq {f : Int → Int → Int} (hf : MM f) {F : Int → Int → Option Int} (hF : ∀ x y, F x y = some (f x y)) {b : Bog} (hb : Ok b) : cut_best b F = some (bestN f b (hollows b) (hollows b).length) := by
  obtain ⟨l, hl, hm⟩ := all_eq hb
  have ⟨hn1, hn2⟩ := hollows_len hb
  have hll : l.length = (hollows b).length := by rw [← hm]; simp
  unfold cut_best
  rw [bnd_eq hl]
  refine Eq.trans (for0 l.length (bestN f b (hollows b)) (fun n s i => cut_best_L1 b F l n s.2 i s.1) (some (bestN f b (hollows b) (hollows b).length)) rfl (fun n i hi => ?_) (fun n => ?_) (by omega)) rfl
  · have hx : l[i]? = some l[i] := by simp [hi]
    have hk : (hollows b)[i]? = some ((a6 l[i]).take b.worth.length) := by rw [← hm, List.getElem?_map, hx]; rfl
    generalize he : (a6 l[i]).take b.worth.length = k at hk
    have km := (mem_hollows hb).1 (List.mem_of_getElem? hk)
    have e : (hollows b).getD i [] = k := by simp [List.getD, hk]
    have wk : cut_worth b k = some (W b k) := worth_eq hb (hollow0.1 km).2.1
    show cut_best_B1 b F l (cut_best_L1 b F l n) _ _ _ = _
    unfold cut_best_B1
    rw [if_pos (by omega), ix_nat hx, ix6, bnd_eq (hollow_list_eq hb _)]
    have e6 : List.take b.worth.length (a6 ⟨l[i].at0, l[i].at1, l[i].at2, l[i].at3, l[i].at4, l[i].at5⟩) = k := he
    rw [e6, bnd_eq wk]
    have e1 : bestN f b (hollows b) (i + 1) = (if i = 0 ∨ (bestN f b (hollows b) i).2 < W b k then (k, W b k) else if W b k = (bestN f b (hollows b) i).2 then (List.zipWith f (bestN f b (hollows b) i).1 k, (bestN f b (hollows b) i).2) else bestN f b (hollows b) i) := by
      rw [← e]; rfl
    by_cases h0 : i = 0
    · rw [e1.trans (if_pos (.inl h0))]
      subst h0
      rw [if_pos (by rfl)]
      unfold cut_best_k3 cut_best_k2
      rw [if_pos rfl, gd_pos (by omega)]; rfl
    · rw [if_neg (by omega)]
      unfold cut_best_k3 cut_best_k2
      by_cases h1 : (bestN f b (hollows b) i).2 < W b k
      · rw [e1.trans (if_pos (.inr h1)), if_pos (by simp [h1]), gd_pos (by omega)]; rfl
      · have e2 := e1.trans (if_neg (not_or.2 ⟨h0, h1⟩))
        rw [if_neg (by simp [h1])]
        by_cases h2 : W b k = (bestN f b (hollows b) i).2
        · have ih : BInv f b (hollows b) (i - 1 + 1) (bestN f b (hollows b) (i - 1 + 1)) := binv hf hb (i - 1) (by omega)
          rw [show i - 1 + 1 = i by omega] at ih
          have := hollow_len ih.hol; have := hollow_len km; have := hb.n6
          rw [e2.trans (if_pos h2), if_pos h2, bnd_eq (joined_eq hF (by omega) (by omega)), gd_pos (by omega)]; rfl
        · rw [e2.trans (if_neg h2), if_neg h2, gd_pos (by omega)]; rfl
  · show cut_best_B1 b F l (cut_best_L1 b F l n) _ _ _ = _
    unfold cut_best_B1
    rw [if_neg (by omega), hll]; rfl
/-- The best hollow: what it is. -/
structure Best (f : Int → Int → Int) (b : Bog) (s : List Int × Int) : Prop where
  hol : hollowE b s.1 = 0
  w : W b s.1 = s.2
  top : ∀ h, hollowE b h = 0 → W b h ≤ s.2
  all : ∀ h, hollowE b h = 0 → W b h = s.2 → List.zipWith f s.1 h = s.1
theorem best_spec {f : Int → Int → Int} (hf : MM f) {b : Bog} (hb : Ok b) : Best f b (bestN f b (hollows b) (hollows b).length) := by
  have ⟨hn1, hn2⟩ := hollows_len hb
  have h := binv hf hb ((hollows b).length - 1) (by omega)
  rw [show (hollows b).length - 1 + 1 = (hollows b).length by omega] at h
  have e : (hollows b).take (hollows b).length = hollows b := List.take_length
  have ht : ∀ k, hollowE b k = 0 → W b k ≤ (bestN f b (hollows b) (hollows b).length).2 := fun k hk => h.top k (by rw [e]; exact (mem_hollows hb).2 hk)
  exact ⟨h.hol, h.w ht, ht, fun k hk hw => h.all k (by rw [e]; exact (mem_hollows hb).2 hk) hw⟩
end Go.D4

set_option linter.unusedVariables false
set_option linter.unusedSimpArgs false
namespace Go.D4
open Go.Tb
def tollC (by_ : Int) (c : List Int) : List Int := c.map fun w => w - by_
def tollB (b : Bog) (by_ : Int) : Bog := ⟨b.worth.map (tollC by_)⟩
def tollR (b : Bog) (by_ : Int) : Bog × Int :=
  if validate b = 0 then (if within by_ (-50) 50 = true then (if validate (tollB b by_) = 0 then (tollB b by_, 0) else (⟨[]⟩, 3)) else (⟨[]⟩, 1)) else (⟨[]⟩, validate b)
theorem toll_short {b : Bog} (hs : Short b) (by_ : Int) : Short (tollB b by_) :=
  ⟨by simpa [tollB] using hs.1, fun c hc => by
    simp only [tollB, List.mem_map] at hc
    obtain ⟨d, hd, rfl⟩ := hc
    simpa [tollC] using hs.2 d hd⟩
theorem Toll_eq {b : Bog} (hs : Short b) (by_ : Int) : cut_Toll b by_ = some (tollR b by_) := by
  unfold cut_Toll tollR
  rw [bnd_eq (Validate_eq hs)]
  by_cases hv : validate b = 0
  · have hb := val0.1 hv
    have h6 := hb.n6
    have hd4 := hb.d4
    rw [if_pos hv, if_pos hv, bnd_eq (from_eq _ _ _)]
    cases hw : within by_ (-50) 50
    · rfl
    · have hw' := within_iff.1 hw
      simp only [if_true]
      refine Eq.trans (for0 b.worth.length (fun i => (b.worth.take i).map (tollC by_)) (fun n s i => cut_Toll_L2 b by_ n i s) (some (if validate (tollB b by_) = 0 then (tollB b by_, 0) else (⟨[]⟩, 3))) (by simp) (fun n i hi => ?_) (fun n => ?_) (by omega)) rfl
      · have hx : b.worth[i]? = some b.worth[i] := by simp [hi]
        generalize hg : b.worth[i] = x at hx
        have hc := hb.col x (List.mem_of_getElem? hx)
        show cut_Toll_B2 b by_ (cut_Toll_L2 b by_ n) _ _ = _
        unfold cut_Toll_B2
        rw [if_pos (by omega), ix_nat hx]
        refine Eq.trans (for0 x.length (fun j => tollC by_ (x.take j)) (fun m s j => cut_Toll_L1 by_ i ((b.worth.take i).map (tollC by_)) (cut_Toll_L2 b by_ n) x m j s) (cut_Toll_L2 b by_ n ((i + 1 : Nat) : Int) ((b.worth.take (i + 1)).map (tollC by_))) (by simp [tollC]) (fun m j hj => ?_) (fun m => ?_) (by omega)) rfl
        · have hy : x[j]? = some x[j] := by simp [hj]
          have hwb := hc.2 x[j] (List.getElem_mem _)
          have e : tollC by_ (x.take (j + 1)) = tollC by_ (x.take j) ++ [x[j] - by_] := by
            unfold tollC; rw [List.take_add_one, hy, List.map_append]; rfl
          have hl : (tollC by_ (x.take j)).length ≤ 4 := by simp [tollC]; omega
          show cut_Toll_B1 by_ i _ (cut_Toll_L2 b by_ n) x (cut_Toll_L1 by_ i _ (cut_Toll_L2 b by_ n) x m) _ _ = _
          unfold cut_Toll_B1
          rw [if_pos (by omega), ix_nat hy, gd_pos (by omega), gd_pos (by simp; omega), gd_pos (by omega), e]; rfl
        · show cut_Toll_B1 by_ i _ (cut_Toll_L2 b by_ n) x (cut_Toll_L1 by_ i _ (cut_Toll_L2 b by_ n) x m) _ _ = _
          have e : (b.worth.take (i + 1)).map (tollC by_) = (b.worth.take i).map (tollC by_) ++ [tollC by_ x] := by
            rw [List.take_add_one, hx, List.map_append]; rfl
          unfold cut_Toll_B1
          rw [if_neg (by omega)]
          unfold cut_Toll_k3 cut_Toll_k2
          rw [gd_pos (by simp; omega), gd_pos (by omega), List.take_length, e]; rfl
      · show cut_Toll_B2 b by_ (cut_Toll_L2 b by_ n) _ _ = _
        unfold cut_Toll_B2
        rw [if_neg (by omega)]
        unfold cut_Toll_k1
        rw [List.take_length, bnd_eq (Validate_eq (b := ⟨b.worth.map (tollC by_)⟩) (toll_short hs by_))]
        show (if validate (tollB b by_) = 0 then _ else _) = _
        by_cases h : validate (tollB b by_) = 0
        · rw [if_pos h, if_pos h]; rfl
        · rw [if_neg h, if_neg h]
  · rw [if_neg hv, if_neg hv]
theorem Copy_eq {b : Bog} (hb : Ok b) : ref04_Copy b = some b := by
  have h6 := hb.n6
  unfold ref04_Copy
  refine Eq.trans (for0 b.worth.length (fun i => b.worth.take i) (fun n s i => ref04_Copy_L1 b n i s) (some b) (by simp) (fun n i hi => ?_) (fun n => ?_) (by omega)) rfl
  · have hx : b.worth[i]? = some b.worth[i] := by simp [hi]
    have hc := hb.col b.worth[i] (List.getElem_mem _)
    have hd := hb.d4
    have e : b.worth.take (i + 1) = b.worth.take i ++ [b.worth[i]] := by rw [List.take_add_one, hx]; rfl
    show ref04_Copy_B1 b (ref04_Copy_L1 b n) _ _ = _
    unfold ref04_Copy_B1
    rw [if_pos (by omega), ix_nat hx, gd_pos (by simp; omega), gd_pos (by simp; omega), gd_pos (by omega), e, List.nil_append]; rfl
  · show ref04_Copy_B1 b (ref04_Copy_L1 b n) _ _ = _
    unfold ref04_Copy_B1
    rw [if_neg (by omega)]
    unfold ref04_Copy_k1
    rw [List.take_length]
end Go.D4

set_option linter.unusedVariables false
set_option linter.unusedSimpArgs false
namespace Go.D4
open Go.Tb
def rowM (t : Int) (x : List Int) (j : Nat) : List Int := tollC t (x.take j) ++ x.drop j
theorem rowM_step {t : Int} {x : List Int} {j : Nat} {v : Int} (hv : x[j]? = some v) : (rowM t x j)[j]? = some v ∧ (rowM t x j).set j (v - t) = rowM t x (j + 1) ∧ (rowM t x j).length = x.length := by
  have hj := lt_of_at hv
  have hl : (tollC t (x.take j)).length = j := by simp [tollC]; omega
  have hd : x.drop j = v :: x.drop (j + 1) := by
    rw [List.drop_eq_getElem_cons hj]
    rw [List.getElem?_eq_getElem hj] at hv
    rw [Option.some.inj hv]
  refine ⟨?_, ?_, by unfold rowM; simp [tollC]; omega⟩
  · unfold rowM
    rw [List.getElem?_append_right (by omega), hl, hd]; simp
  · unfold rowM
    rw [List.set_append_right _ _ (by omega), hl, hd, Nat.sub_self, List.set_cons_zero]
    have e : tollC t (x.take (j + 1)) = tollC t (x.take j) ++ [v - t] := by
      unfold tollC; rw [List.take_add_one, hv, List.map_append]; rfl
    rw [e]; simp
def tabM (t : Int) (m : List (List Int)) (i : Nat) (r : List Int) : List (List Int) := (m.take i).map (tollC t) ++ r :: m.drop (i + 1)
theorem tabM_at {t : Int} {m : List (List Int)} {i : Nat} (hi : i < m.length) (r q : List Int) : (tabM t m i r)[i]? = some r ∧ (tabM t m i r).set i q = tabM t m i q := by
  have hl : ((m.take i).map (tollC t)).length = i := by simp; omega
  constructor
  · unfold tabM; rw [List.getElem?_append_right (by omega), hl]; simp
  · unfold tabM; rw [List.set_append_right _ _ (by omega), hl]; simp
def allM (t : Int) (m : List (List Int)) (i : Nat) : List (List Int) := (m.take i).map (tollC t) ++ m.drop i
theorem rToll_eq {b : Bog} (hs : Short b) (t : Int) : ref04_Toll b t = some (tollR b t) := by
  unfold ref04_Toll tollR
  rw [bnd_eq (rValidate_eq hs)]
  by_cases hv : validate b = 0
  · have hb := val0.1 hv
    have h6 := hb.n6
    have hd4 := hb.d4
    rw [if_pos hv, if_pos hv]
    by_cases h1 : (50 : Int) < t
    · have : within t (-50) 50 = false := by simp [within]; omega
      rw [if_pos h1, this]; rfl
    rw [if_neg h1]
    by_cases h2 : t < -50
    · have : within t (-50) 50 = false := by simp [within]; omega
      simp only [h2, this]; rfl
    have hw : within t (-50) 50 = true := within_iff.2 (by omega)
    simp only [h2, hw, decide_false, if_true]
    unfold ref04_Toll_k3
    rw [if_neg (by simp), bnd_eq (Copy_eq hb)]
    refine Eq.trans (for0 b.worth.length (allM t b.worth) (fun n s i => ref04_Toll_L2 t n i s) (some (if validate (tollB b t) = 0 then (tollB b t, 0) else (⟨[]⟩, 3))) (by simp [allM]) (fun n i hi => ?_) (fun n => ?_) (by omega)) rfl
    · have hx : b.worth[i]? = some b.worth[i] := by simp [hi]
      generalize hg : b.worth[i] = x at hx
      have hc := hb.col x (List.mem_of_getElem? hx)
      have e0 : allM t b.worth i = tabM t b.worth i (rowM t x 0) := by
        unfold allM tabM rowM
        rw [List.drop_eq_getElem_cons hi, hg]; rfl
      have eN : tabM t b.worth i (rowM t x x.length) = allM t b.worth (i + 1) := by
        unfold allM tabM rowM
        rw [List.take_length, List.drop_length, List.append_nil, List.take_add_one, hx, List.map_append]; simp
      have hal : (allM t b.worth i).length = b.worth.length := by unfold allM; simp; omega
      show ref04_Toll_B2 t (ref04_Toll_L2 t n) _ _ = _
      unfold ref04_Toll_B2
      rw [if_pos (by omega)]
      refine Eq.trans (for0 x.length (fun j => tabM t b.worth i (rowM t x j)) (fun m s j => ref04_Toll_L1 t i (ref04_Toll_L2 t n) m j s) (ref04_Toll_L2 t n ((i + 1 : Nat) : Int) (allM t b.worth (i + 1))) e0.symm (fun m j hj => ?_) (fun m => ?_) (by omega)) rfl
      · have hy : x[j]? = some x[j] := by simp [hj]
        have hwb := hc.2 x[j] (List.getElem_mem _)
        obtain ⟨m1, m2, m3⟩ := rowM_step (t := t) hy
        obtain ⟨t1, t2⟩ := tabM_at (t := t) hi (rowM t x j) (rowM t x (j + 1))
        show ref04_Toll_B1 t i (ref04_Toll_L2 t n) (ref04_Toll_L1 t i (ref04_Toll_L2 t n) m) _ _ = _
        unfold ref04_Toll_B1
        rw [ix_nat t1, if_pos (by omega), ix_nat t1, ix_nat m1, gd_pos (by omega), ix_nat m1, gd_pos (by omega)]
        have e1 : (rowM t x j).set (Int.toNat (j : Int)) (x[j] - t) = rowM t x (j + 1) := m2
        have e2 : (tabM t b.worth i (rowM t x j)).set (Int.toNat (i : Int)) (rowM t x (j + 1)) = tabM t b.worth i (rowM t x (j + 1)) := t2
        rw [e1, e2]; rfl
      · obtain ⟨t1, t2⟩ := tabM_at (t := t) hi (rowM t x x.length) (rowM t x x.length)
        show ref04_Toll_B1 t i (ref04_Toll_L2 t n) (ref04_Toll_L1 t i (ref04_Toll_L2 t n) m) _ _ = _
        unfold ref04_Toll_B1
        rw [ix_nat t1, if_neg (by simp [rowM, tollC])]
        unfold ref04_Toll_k2
        rw [gd_pos (by omega), eN]; rfl
    · show ref04_Toll_B2 t (ref04_Toll_L2 t n) _ _ = _
      have ee : allM t b.worth b.worth.length = b.worth.map (tollC t) := by unfold allM; simp
      unfold ref04_Toll_B2
      rw [ee, if_neg (by simp)]
      unfold ref04_Toll_k1
      rw [bnd_eq (rValidate_eq (b := ⟨b.worth.map (tollC t)⟩) (toll_short hs t))]
      show (if validate (tollB b t) = 0 then _ else _) = _
      by_cases h : validate (tollB b t) = 0
      · rw [if_pos h, if_pos h]; rfl
      · rw [if_neg h, if_neg h]
  · rw [if_neg hv, if_neg hv]
end Go.D4

set_option linter.unusedVariables false
set_option linter.unusedSimpArgs false
namespace Go.D4
open Go.Tb
theorem toll_dep {b : Bog} (t : Int) (hb : Ok b) : dep (tollB b t) = dep b ∧ (tollB b t).worth.length = b.worth.length := by
  have hx : b.worth[0]? = some (b.worth[0]'(by have := hb.n1; omega)) := List.getElem?_eq_getElem _
  refine ⟨?_, by simp [tollB]⟩
  unfold dep tollB
  rw [List.getElem?_map, hx]; simp [tollC]
theorem hollow_toll {b : Bog} {t : Int} (hb : Ok b) (ht : Ok (tollB b t)) {h : List Int} : hollowE (tollB b t) h = 0 ↔ hollowE b h = 0 := by
  have ⟨h1, h2⟩ := toll_dep t hb
  rw [hollow0, hollow0, okL_iff, okL_iff, h1, h2]
  exact ⟨fun ⟨_, a, c⟩ => ⟨hb, a, c⟩, fun ⟨_, a, c⟩ => ⟨ht, a, c⟩⟩
theorem isum_toll (t : Int) : ∀ c : List Int, isum (tollC t c) = isum c - t * (c.length : Int)
  | [] => by simp [tollC, isum]
  | x :: r => by
    have ih := isum_toll t r
    simp only [tollC] at ih
    simp only [tollC, List.map_cons, isum, List.length_cons, ih]
    have : t * ((r.length + 1 : Nat) : Int) = t * (r.length : Int) + t := by rw [Int.natCast_add, Int.mul_add]; simp
    omega
theorem colW_toll {b : Bog} {t : Int} {c : Nat} {x : List Int} (hx : b.worth[c]? = some x) {n : Int} (h0 : 0 ≤ n) (h1 : n ≤ (x.length : Int)) : colW (tollB b t) c n = colW b c n - t * n := by
  have e : (tollB b t).worth[c]? = some (tollC t x) := by unfold tollB; rw [List.getElem?_map, hx]; rfl
  have e2 : (tollC t x).take n.toNat = tollC t (x.take n.toNat) := by unfold tollC; rw [List.map_take]
  have e3 : ((x.take n.toNat).length : Int) = n := by rw [List.length_take]; omega
  rw [col_of e, col_of hx, e2, isum_toll, e3]
theorem isum_gi {h : List Int} {i : Nat} (hi : i < h.length) : isum (h.take (i + 1)) = isum (h.take i) + gi h i := isum_take (gi_at hi)
theorem W_toll {b : Bog} {t : Int} {h : List Int} (h0 : hollowE b h = 0) : W (tollB b t) h = W b h - t * isum h := by
  have ⟨hb, ho, _⟩ := hollow0.1 h0
  have ⟨hl, hx⟩ := okL_iff.1 ho
  have key : ∀ i, i ≤ h.length → wsum (tollB b t) h i = wsum b h i - t * isum (h.take i) := fun i => by
    induction i with
    | zero => intro _; simp [wsum, isum]
    | succ i ih =>
      intro hi
      have ih := ih (by omega)
      have hc : b.worth[i]? = some (b.worth[i]'(by omega)) := List.getElem?_eq_getElem _
      have hcl := (hb.col (b.worth[i]'(by omega)) (List.getElem_mem _)).1
      have hg := hx _ (gi_mem (h := h) (c := i) (by omega))
      have := colW_toll (t := t) hc hg.1 (by omega)
      simp only [wsum]
      rw [ih, this, isum_gi (by omega), Int.mul_add]; omega
  unfold W
  rw [key _ (Nat.le_refl _), List.take_length]
theorem LiesIn_eq {h k : List Int} (hl : k.length = h.length) (hn : h.length ≤ 1000) : ref04_LiesIn h k = some (decide (∀ j, j < h.length → gi h j ≤ gi k j)) := by
  unfold ref04_LiesIn
  rw [list_loop0 (List.range h.length) (fun i => decide (gi h i ≤ gi k i)) (ref04_LiesIn_L1 h k) (some true) (some false) (fun n i x hx => ?_) (fun n => ?_) (by simp; omega)]
  · by_cases ha : ∀ j, j < h.length → gi h j ≤ gi k j
    · rw [decide_eq_true ha, if_pos (List.all_eq_true.2 fun i hi => by have := ha i (List.mem_range.1 hi); simpa using this)]
    · rw [decide_eq_false ha, if_neg (fun hc => ha fun j hj => by have := List.all_eq_true.1 hc j (List.mem_range.2 hj); simpa using this)]
  · have hi := lt_of_at hx
    simp at hi
    have e : x = i := by simp [hi] at hx; exact hx.symm
    subst e
    show ref04_LiesIn_B1 h k (ref04_LiesIn_L1 h k n) _ = _
    unfold ref04_LiesIn_B1 ref04_LiesIn_k2
    rw [if_pos (by omega), if_pos (by simp; omega), ix_nat (gi_at hi), ix_nat (gi_at (by omega)), gd_pos (by omega)]
    by_cases h1 : gi k x < gi h x
    · rw [if_pos h1, if_neg (by simp; omega)]
    · rw [if_neg h1, if_pos (by simp; omega)]; rfl
  · show ref04_LiesIn_B1 h k (ref04_LiesIn_L1 h k n) _ = _
    unfold ref04_LiesIn_B1 ref04_LiesIn_k2
    rw [List.length_range, if_neg (by omega), if_neg (by simp)]
    unfold ref04_LiesIn_k1
    simp [hl]
end Go.D4

set_option linter.unusedVariables false
set_option linter.unusedSimpArgs false
namespace Go.D4
open Go.Tb
theorem isum_zip {f : Int → Int → Int} {h k : List Int} (hl : k.length = h.length) : (∀ x y, f x y ≤ x) → isum (List.zipWith f h k) ≤ isum h := fun hf =>
  (isum_le (by simp; omega) fun c hc => by rw [zw_gi hl hc]; exact hf _ _).1
theorem isum_zip' {f : Int → Int → Int} {h k : List Int} (hl : k.length = h.length) : (∀ x y, y ≤ f x y) → isum k ≤ isum (List.zipWith f h k) := fun hf =>
  (isum_le (by simp; omega) fun c hc => by
    have hc' : c < h.length := by simp at hc; omega
    rw [zw_gi hl hc']; exact hf _ _).1
theorem tolls_least {b : Bog} {t : Int} (hb : Ok b) (ht : Ok (tollB b t)) (h0 : 0 ≤ t) {sx sk : List Int × Int} (X : Best min (tollB b t) sx) (K : Best min b sk) : sx.2 ≤ sk.2 ∧ ∀ j, j < sx.1.length → gi sx.1 j ≤ gi sk.1 j := by
  have xb := (hollow_toll hb ht).1 X.hol
  have hl : sk.1.length = sx.1.length := by rw [hollow_len K.hol, hollow_len xb]
  have hp := hollow_zip (f := min) (.inl fun _ _ => rfl) xb K.hol
  have hq := hollow_zip (f := max) (.inr fun _ _ => rfl) xb K.hol
  have hmm := W_mm xb K.hol
  have q1 := K.top _ hq
  have kw := K.w
  have i1 := isum_zip (f := min) hl (fun x y => by omega)
  have wx := W_toll (t := t) xb
  have wp := W_toll (t := t) hp
  have e1 : t * isum (List.zipWith min sx.1 sk.1) ≤ t * isum sx.1 := Int.mul_le_mul_of_nonneg_left i1 h0
  have p1 := X.top _ ((hollow_toll hb ht).2 hp)
  have xw := X.w
  have hall := X.all _ ((hollow_toll hb ht).2 hp) (by omega)
  rw [← zw_assoc (.inl fun _ _ => rfl), zw_self (fun x => by omega)] at hall
  have i0 : 0 ≤ isum sx.1 := by
    have := (isum_le (l := List.replicate sx.1.length 0) (m := sx.1) (by simp) (fun c hc => by
      have g0 : gi (List.replicate sx.1.length 0) c = 0 := by
        unfold gi; simp only [List.getD, List.getElem?_replicate]; split <;> rfl
      rw [g0]
      exact ((okL_iff.1 (hollow0.1 xb).2.1).2 _ (gi_mem hc)).1)).1
    have s0 : ∀ n, isum (List.replicate n 0) = 0 := fun n => by
      induction n with
      | zero => rfl
      | succ n ih => simp [List.replicate_succ, isum, ih]
    rw [s0] at this; exact this
  have e2 : 0 ≤ t * isum sx.1 := Int.mul_nonneg h0 i0
  have x1 := K.top _ xb
  refine ⟨by omega, fun j hj => ?_⟩
  have := zw_gi (f := min) hl hj
  rw [hall] at this; omega
theorem tolls_most {b : Bog} {t : Int} (hb : Ok b) (ht : Ok (tollB b t)) (h0 : 0 ≤ t) {su sv : List Int × Int} (U : Best max (tollB b t) su) (V : Best max b sv) : ∀ j, j < su.1.length → gi su.1 j ≤ gi sv.1 j := by
  have ub := (hollow_toll hb ht).1 U.hol
  have hl : sv.1.length = su.1.length := by rw [hollow_len V.hol, hollow_len ub]
  have hp := hollow_zip (f := min) (.inl fun _ _ => rfl) ub V.hol
  have hq := hollow_zip (f := max) (.inr fun _ _ => rfl) ub V.hol
  have hmm := W_mm U.hol ((hollow_toll hb ht).2 V.hol)
  have p1 := U.top _ ((hollow_toll hb ht).2 hp)
  have uw := U.w
  have i1 := isum_zip' (f := max) hl (fun x y => by omega)
  have wq := W_toll (t := t) hq
  have wv := W_toll (t := t) V.hol
  have e1 : t * isum sv.1 ≤ t * isum (List.zipWith max su.1 sv.1) := Int.mul_le_mul_of_nonneg_left i1 h0
  have q1 := V.top _ hq
  have vw := V.w
  have hall := V.all _ hq (by omega)
  rw [zw_comm (.inr fun _ _ => rfl), zw_assoc (.inr fun _ _ => rfl), zw_self (fun x => by omega)] at hall
  intro j hj
  have := zw_gi (f := max) hl hj
  rw [hall] at this; omega
end Go.D4

set_option linter.unusedVariables false
set_option linter.unusedSimpArgs false
namespace Go.D4
open Go.Tb
def bestR (f : Int → Int → Int) (b : Bog) : List Int × Int × Int := if validate b = 0 then ((bestN f b (hollows b) (hollows b).length).1, (bestN f b (hollows b) (hollows b).length).2, 0) else ([], 0, validate b)
theorem Best_eq {b : Bog} (hs : Short b) : cut_Best b = some (bestR min b) := by
  unfold cut_Best bestR
  rw [bnd_eq (Validate_eq hs)]
  by_cases hv : validate b = 0
  · rw [if_pos hv, if_pos hv, bnd_eq (best_eq (.inl fun _ _ => rfl) smaller_eq (val0.1 hv))]
  · rw [if_neg hv, if_neg hv]
theorem Deepest_eq {b : Bog} (hs : Short b) : cut_Deepest b = some (bestR max b) := by
  unfold cut_Deepest bestR
  rw [bnd_eq (Validate_eq hs)]
  by_cases hv : validate b = 0
  · rw [if_pos hv, if_pos hv, bnd_eq (best_eq (.inr fun _ _ => rfl) greater_eq (val0.1 hv))]
  · rw [if_neg hv, if_neg hv]
theorem Same_self {b : Bog} (h : b.worth.length ≤ 1000 ∧ ∀ c ∈ b.worth, c.length ≤ 1000) : ref04_Same b b = some true := by
  unfold ref04_Same
  rw [if_pos rfl, list_loop0 b.worth (fun _ => true) (ref04_Same_L1 b b) (some true) (some false) (fun n i x hx => ?_) (fun n => ?_) (by omega)]
  · simp
  · have := lt_of_at hx
    have hc := h.2 x (List.mem_of_getElem? hx)
    show ref04_Same_B1 b b (ref04_Same_L1 b b n) _ = _
    unfold ref04_Same_B1
    rw [if_pos (by omega), ix_nat hx, ix_nat hx, bnd_eq (SameInts_self (by omega)), if_pos rfl, gd_pos (by omega), if_pos rfl]; rfl
  · show ref04_Same_B1 b b (ref04_Same_L1 b b n) _ = _
    unfold ref04_Same_B1
    rw [if_neg (by omega)]; rfl
theorem tollR_short {b : Bog} (hs : Short b) (t : Int) : Short (tollR b t).1 := by
  unfold tollR
  split
  · split
    · split
      · exact toll_short hs t
      · exact ⟨by simp, by simp⟩
    · exact ⟨by simp, by simp⟩
  · exact ⟨by simp, by simp⟩
theorem tollR_ok {b : Bog} {t : Int} (h : (tollR b t).2 = 0) : Ok b ∧ Ok (tollB b t) ∧ tollR b t = (tollB b t, 0) := by
  unfold tollR at h ⊢
  split at h
  · rename_i hv
    split at h
    · rename_i hw
      split at h
      · rename_i hv2
        rw [if_pos hv, if_pos hw, if_pos hv2]
        exact ⟨val0.1 hv, val0.1 hv2, rfl⟩
      · cases h
    · cases h
  · rename_i hv; exact absurd h hv
theorem law_CutTolls (b : Bog) (t : Int) (hb : b.worth.length ≤ 9223372036854775807) : law04_CutTolls b t = some true := by
  unfold law04_CutTolls
  rw [bnd_eq (Long_eq (by simp) hb)]
  cases hL : longB b []
  · obtain ⟨hs, _⟩ := long_short hL
    have hts := tollR_short hs t
    rw [if_neg (by simp), bnd_eq (Toll_eq hs t), bnd_eq (rToll_eq hs t), bnd_eq (Same_self ⟨by have := hts.1; omega, fun c hc => by have := hts.2 c hc; omega⟩), if_pos rfl]
    unfold law04_CutTolls_k2
    rw [if_neg (by simp)]
    have yes : ∀ r, law04_CutTolls_k1 b r true = some true := fun r => by unfold law04_CutTolls_k1; rw [if_pos rfl, bnd_eq sane_eq]
    by_cases h0 : (tollR b t).2 = 0
    · have ⟨ob, ot, e⟩ := tollR_ok h0
      rw [if_pos h0, e]
      by_cases hn : t < 0
      · simp only [hn, decide_true]; exact yes _
      · simp only [hn, decide_false]
        unfold law04_CutTolls_k1
        have ts := toll_short hs t
        have X := best_spec (f := min) (.inl fun _ _ => rfl) ot
        have K := best_spec (f := min) (.inl fun _ _ => rfl) ob
        have U := best_spec (f := max) (.inr fun _ _ => rfl) ot
        have V := best_spec (f := max) (.inr fun _ _ => rfl) ob
        have ⟨l1, l2⟩ := tolls_least ob ot (by omega) X K
        have l3 := tolls_most ob ot (by omega) U V
        have xl := hollow_len ((hollow_toll ob ot).1 X.hol)
        have ul := hollow_len ((hollow_toll ob ot).1 U.hol)
        have kl := hollow_len K.hol
        have vl := hollow_len V.hol
        have h6 := ob.n6
        have r1 : bestR min (tollB b t) = _ := if_pos (val0.2 ot)
        have r2 : bestR min b = _ := if_pos (val0.2 ob)
        have r3 : bestR max (tollB b t) = _ := if_pos (val0.2 ot)
        have r4 : bestR max b = _ := if_pos (val0.2 ob)
        rw [if_neg (by simp), bnd_eq (Best_eq ts), bnd_eq (Best_eq hs), bnd_eq (Deepest_eq ts), bnd_eq (Deepest_eq hs), r1, r2, r3, r4, if_pos rfl, if_pos rfl, if_pos rfl, if_pos rfl, if_pos l1, bnd_eq (LiesIn_eq (by simp only; omega) (by simp only; omega)), decide_eq_true l2, if_pos rfl, bnd_eq (LiesIn_eq (by simp only; omega) (by simp only; omega)), decide_eq_true l3, if_pos rfl, bnd_eq sane_eq]
    · rw [if_neg h0]; exact yes _
  · rw [if_pos rfl, bnd_eq sane_eq]
end Go.D4
