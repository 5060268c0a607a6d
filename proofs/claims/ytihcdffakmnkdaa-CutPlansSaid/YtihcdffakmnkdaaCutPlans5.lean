/- Lemmas and walks that the proof of this claim uses: D4m10, D4m11D, D4m11, Tb22, D4p1, D4p2, D4p3. -/
import Derived.Test.YtihcdffakmnkdaaCutPlans4
import Derived.Test.YtihcdffakmnkdaaProg
import Derived.KernelRfl
set_option linter.unusedVariables false
set_option linter.unusedSimpArgs false
namespace Go.D4
open Go.Tb Go.Proofs Go.RowKit

theorem Tc33 : callable Try.prog 33 = true := by kernel_rfl
theorem Tc34 : callable Try.prog 34 = true := by kernel_rfl
theorem Tc79 : callable Try.prog 79 = true := by kernel_rfl
theorem Tc80 : callable Try.prog 80 = true := by kernel_rfl

set_option maxRecDepth 20000 in
set_option maxHeartbeats 1000000 in
theorem cut_CheckOrder_1_ok {cap0 : Bog} {a0 : Int} {A_cap0_worth : Option Addr} {c_cap0_worth : Nat} {b_cap0 : Nat} {w : World} {res : Bool} (h_cap0_worth : Sl2 w A_cap0_worth c_cap0_worth 1 encN cap0.worth) (hc_cap0 : Cells w ⟨b_cap0, 0, none⟩ [.slice A_cap0_worth cap0.worth.length c_cap0_worth]) (F : cut_CheckOrder_1 cap0 a0 = some res) : Calls Try.prog 79 #[.int .i64 a0, .pointer (some (⟨b_cap0, 0, none⟩))] w (Rt w (.bool res)) := by
  refine calls_of_cw (args := [.int .i64 a0, .pointer (some (⟨b_cap0, 0, none⟩))]) Try.func79 rfl rfl rfl rfl ?_
  have H := Hp.start w
  have R0 := H.ext
  unfold cut_CheckOrder_1 at F
  refine CW.seq fun K1 hK1 => ?_
  refine CW.region ?_
  refine LW.pure rfl rfl (RV.assign rfl) ?_
  refine LW.nil (hK1 _ _ ?_)
  refine CW.seq fun K2 hK2 => ?_
  obtain ⟨hg1, F⟩ := gd_some F
  obtain ⟨r1, hr1, F⟩ := bnd_some F
  refine CW.region ?_
  refine LW.pure rfl rfl (RV.move rfl) ?_
  refine LW.pure rfl rfl (RV.fieldAddr Tf24_0 rfl) ?_
  refine LW.pure rfl rfl (RV.load1 Tk22 rfl ((hc_cap0.ext R0).off 0) rfl) ?_
  refine LW.pure rfl rfl (RV.len Ts22 rfl) ?_
  refine LW.pure rfl rfl (RV.sub rfl rfl hg1) ?_
  refine LW.go rfl rfl (OW.call Tc67 rfl (cut_from_ok (a0 := a0) (a1 := (0 : Int)) (a2 := ((cap0.worth.length : Int)) - 1) hr1) ?_)
  rintro _ w1 ⟨rfl, E1⟩
  refine ⟨_, rfl, ?_⟩
  replace H := H.grow E1
  replace R0 := H.ext
  refine LW.pure rfl rfl (RV.not rfl) ?_
  refine LW.pure rfl rfl (RV.assign rfl) ?_
  refine LW.nil (hK2 _ _ ?_)
  refine CW.ret ?_
  obtain rfl := Option.some.inj F
  refine ⟨_, (ResOK.one rfl), ?_⟩
  refine ⟨(by first | rfl | simp), R0⟩

set_option maxRecDepth 20000 in
set_option maxHeartbeats 1000000 in
theorem cut_CheckOrder_ok {a0 : Bog} {a1 : List Int} {A_a0_worth : Option Addr} {c_a0_worth : Nat} {A_a1 : Option Addr} {c_a1 : Nat} {w : World} {res : (List Int) × Int × Int} (h_a0_worth : Sl2 w A_a0_worth c_a0_worth 1 encN a0.worth) (h_a1 : Sl w A_a1 c_a1 1 (a1.map encN)) (F : cut_CheckOrder a0 a1 = some res) : Calls Try.prog 33 #[.agg #[.slice A_a0_worth a0.worth.length c_a0_worth], .slice A_a1 a1.length c_a1] w (fun e w' => ∃ (A0 : Option Addr) (c0 : Nat), e = .returned (.tuple #[.slice A0 res.1.length c0, .int .i64 res.2.1, .int .i64 res.2.2]) ∧ Hp w w' [.own A0 c0 3 1 (List.map encN res.1)]) := by
  refine calls_of_cw (args := [.agg #[.slice A_a0_worth a0.worth.length c_a0_worth], .slice A_a1 a1.length c_a1]) Try.func33 rfl rfl rfl rfl ?_
  have H := Hp.start w
  have R0 := H.ext
  unfold cut_CheckOrder at F
  refine CW.seq fun K1 hK1 => ?_
  refine CW.region ?_
  refine LW.go rfl rfl (OW.box rfl fun b1 w1 N1 => ?_)
  replace H := H.new N1 N1.blk
  replace R0 := H.ext
  refine LW.pure rfl rfl (RV.assign rfl) ?_
  refine LW.pure rfl rfl (RV.assign rfl) ?_
  refine LW.pure rfl rfl (RV.assign rfl) ?_
  refine LW.nil (hK1 _ _ ?_)
  refine CW.seq fun K2 hK2 => ?_
  refine CW.seq fun K3 hK3 => ?_
  obtain ⟨r2, hr2, F⟩ := bnd_some F
  refine CW.region ?_
  refine LW.pure rfl rfl (RV.loadA [.slice A_a0_worth a0.worth.length c_a0_worth] Tk24 rfl (H.blk 0 rfl).cells rfl rfl) ?_
  refine LW.go rfl rfl (OW.call Tc25 rfl (cut_Validate_ok (a0 := a0) (h_a0_worth.ext R0) hr2) ?_)
  rintro _ w2 ⟨rfl, E1⟩
  refine ⟨_, rfl, ?_⟩
  replace H := H.grow E1
  replace R0 := H.ext
  refine LW.pure rfl rfl (RV.assign rfl) ?_
  refine LW.nil (hK3 _ _ ?_)
  refine CW.seq fun K4 hK4 => ?_
  refine CW.region ?_
  refine LW.pure rfl rfl (RV.move rfl) ?_
  refine LW.pure rfl rfl (RV.nei rfl rfl) ?_
  refine LW.nil (hK4 _ _ ?_)
  by_cases hp1 : r2 = 0
  ·
    replace F := ite_y hp1 F
    have hq1 := dec_t hp1
    refine CW.condF rfl (not_f hq1) ?_
    refine CW.skip (hK2 _ _ ?_)
    refine CW.seq fun K5 hK5 => ?_
    refine CW.seq fun K6 hK6 => ?_
    refine CW.region ?_
    refine LW.pure rfl rfl (RV.move rfl) ?_
    refine LW.pure rfl rfl (RV.len Ts25 rfl) ?_
    refine LW.pure rfl rfl (RV.gtr rfl rfl) ?_
    refine LW.nil (hK6 _ _ ?_)
    by_cases hp2 : (24 : Int) < ((a1.length : Int))
    ·
      replace F := ite_y hp2 F
      have hq2 := dec_t hp2
      refine CW.condT rfl hq2 ?_
      refine CW.seq fun K7 hK7 => ?_
      refine CW.region ?_
      refine LW.pure rfl rfl (RV.assign rfl) ?_
      refine LW.pure rfl rfl (RV.assign rfl) ?_
      refine LW.pure rfl rfl (RV.assign rfl) ?_
      refine LW.nil (hK7 _ _ ?_)
      refine CW.ret ?_
      obtain rfl := Option.some.inj F
      refine ⟨_, (ResOK.three rfl rfl rfl), ?_⟩
      replace H := H.nilOwn 3 1
      replace R0 := H.ext
      replace H := H.pick (L' := [.own none 0 3 1 (List.map encN (([] : List Int)))]) [0] (by decide) rfl
      replace R0 := H.ext
      exact ⟨none, 0, (by first | rfl | (simp; done) | (simp; omega)), H⟩
    ·
      replace F := ite_n hp2 F
      have hq2 := dec_f hp2
      refine CW.condF rfl hq2 ?_
      refine CW.skip (hK5 _ _ ?_)
      refine CW.seq fun K8 hK8 => ?_
      refine CW.seq fun K9 hK9 => ?_
      obtain ⟨r3, hr3, F⟩ := bnd_some F
      refine CW.region ?_
      refine LW.pure rfl rfl (RV.move rfl) ?_
      refine LW.pure rfl rfl (RV.makeFunc (fs := []) (cs := [.pointer (some (⟨b1, 0, none⟩))]) rfl rfl) ?_
      refine LW.go rfl rfl (OW.call Tc69 rfl (slices_ContainsFunc_int_ok (a0 := a1) (a1 := (fun x4 => cut_CheckOrder_1 a0 x4)) (h_a1.ext R0) (fun x4 r hF w3 hE => CallsV.cap Tc79 (by simp) (cut_CheckOrder_1_ok (cap0 := a0) (a0 := x4) ((h_a0_worth.ext R0).ext hE) ((H.blk 0 rfl).cells.ext hE) hF)) hr3) ?_)
      rintro _ w4 ⟨rfl, E2⟩
      refine ⟨_, rfl, ?_⟩
      replace H := H.grow E2
      replace R0 := H.ext
      refine LW.nil (hK9 _ _ ?_)
      by_cases hp3 : r3 = true
      ·
        replace F := ite_y hp3 F
        have hq3 : r3 = true := hp3
        refine CW.condT rfl hq3 ?_
        refine CW.seq fun K10 hK10 => ?_
        refine CW.region ?_
        refine LW.pure rfl rfl (RV.assign rfl) ?_
        refine LW.pure rfl rfl (RV.assign rfl) ?_
        refine LW.pure rfl rfl (RV.assign rfl) ?_
        refine LW.nil (hK10 _ _ ?_)
        refine CW.ret ?_
        obtain rfl := Option.some.inj F
        refine ⟨_, (ResOK.three rfl rfl rfl), ?_⟩
        replace H := H.nilOwn 3 1
        replace R0 := H.ext
        replace H := H.pick (L' := [.own none 0 3 1 (List.map encN (([] : List Int)))]) [0] (by decide) rfl
        replace R0 := H.ext
        exact ⟨none, 0, (by first | rfl | (simp; done) | (simp; omega)), H⟩
      ·
        replace F := ite_n hp3 F
        have hq3 : r3 = false := raw_f hp3
        refine CW.condF rfl hq3 ?_
        refine CW.skip (hK8 _ _ ?_)
        refine CW.seq fun K11 hK11 => ?_
        obtain ⟨hg1, F⟩ := gd_some F
        refine CW.region ?_
        refine LW.pure rfl rfl (RV.fieldAddr Tf24_0 rfl) ?_
        refine LW.pure rfl rfl (RV.load1 Tk22 rfl ((H.blk 0 rfl).cells.off 0) rfl) ?_
        refine LW.pure rfl rfl (RV.len Ts22 rfl) ?_
        refine LW.go rfl rfl (OW.makeR (enc := encN) (0 : Int) Ts25 rfl rfl rfl rfl rfl hg1 (by decide) fun b2 w5 N2 => ?_)
        replace H := H.made' (k := 1) (t := 3) (enc := encN) (l := (List.replicate (Int.toNat ((a0.worth.length : Int))) (0 : Int))) N2 N2.blk (fun _ => rfl) rfl (by first | decide | omega | (simp; done) | (simp; omega))
        replace R0 := H.ext
        refine LW.pure rfl rfl (RV.assign rfl) ?_
        refine LW.nil (hK11 _ _ ?_)
        refine CW.seqJ (fun ρ wl1 => (∃ (l1 : List Int), cut_CheckOrder_k1 a1 l1 = some res ∧ ρ = [(1, .slice A_a1 a1.length c_a1), (4, .slice none 0 0), (5, .int .i64 0), (6, .int .i64 0), (8, .slice (some ⟨b2, 0, none⟩) l1.length (((List.replicate (Int.toNat ((a0.worth.length : Int))) (0 : Int))).length))] ∧ Hp w wl1 [.own (some ⟨b2, 0, none⟩) (((List.replicate (Int.toNat ((a0.worth.length : Int))) (0 : Int))).length) 3 1 (List.map encN l1)])) ?_ ?_
        ·
          rintro _ wl1 ⟨l1, F, rfl, H⟩
          have R0 := H.ext
          unfold cut_CheckOrder_k1 at F
          refine CW.seq fun K12 hK12 => ?_
          refine CW.region ?_
          refine LW.pure rfl rfl (RV.move rfl) ?_
          refine LW.pure rfl rfl (RV.move rfl) ?_
          refine LW.pure rfl rfl (RV.len Ts25 rfl) ?_
          refine LW.pure rfl rfl (RV.assign rfl) ?_
          refine LW.pure rfl rfl (RV.assign rfl) ?_
          refine LW.pure rfl rfl (RV.assign rfl) ?_
          refine LW.nil (hK12 _ _ ?_)
          refine CW.ret ?_
          obtain rfl := Option.some.inj F
          refine ⟨_, (ResOK.three rfl rfl rfl), ?_⟩
          exact ⟨(some ⟨b2, 0, none⟩), (((List.replicate (Int.toNat ((a0.worth.length : Int))) (0 : Int))).length), (by first | rfl | (simp; done) | (simp; omega)), H⟩
        ·
          intro K13 hK13 jK93
          refine CW.seq fun K14 hK14 => ?_
          refine CW.region ?_
          refine LW.pure rfl rfl (RV.move rfl) ?_
          refine LW.pure rfl rfl (RV.len Ts25 rfl) ?_
          refine LW.pure rfl rfl (RV.move rfl) ?_
          refine LW.nil (hK14 _ _ ?_)
          refine CW.block ?_
          refine CW.loop (fun meas ρ wl2 => ∃ (t28_1 : Int) (l2 : List Int), cut_CheckOrder_L1 a0 a1 meas t28_1 l2 = some res ∧ ρ = [(1, .slice A_a1 a1.length c_a1), (2, .pointer (some (⟨b1, 0, none⟩))), (4, .slice none 0 0), (5, .int .i64 0), (6, .int .i64 0), (8, .slice (some ⟨b2, 0, none⟩) l2.length (((List.replicate (Int.toNat ((a0.worth.length : Int))) (0 : Int))).length)), (26, .slice A_a1 a1.length c_a1), (27, .int .i64 ((a1.length : Int))), (28, .int .i64 t28_1)] ∧ Hp w wl2 [.own (some ⟨b2, 0, none⟩) (((List.replicate (Int.toNat ((a0.worth.length : Int))) (0 : Int))).length) 3 1 (List.map encN l2), .blk b1 24 [.slice A_a0_worth a0.worth.length c_a0_worth]]) FU ⟨_, ?_, ((0 : Int)), ((List.replicate (Int.toNat ((a0.worth.length : Int))) (0 : Int))), F, rfl, H⟩ ?_
          · exact ⟨rfl, rfl, rfl, rfl, rfl, (look_slice rfl (by first | rfl | (simp; done) | (simp; omega))), rfl, rfl, rfl, trivial⟩
          rintro mk1 _ wl2 ⟨t28_1, l2, F, rfl, H⟩
          have R0 := H.ext
          replace F := cut_CheckOrder_L1_s F
          obtain ⟨mk1, rfl, F⟩ := F
          generalize hrec1 : cut_CheckOrder_L1 a0 a1 mk1 = rec1 at F
          unfold cut_CheckOrder_B1 at F
          refine CW.seq fun K15 hK15 => ?_
          refine CW.region ?_
          refine LW.pure rfl rfl (RV.lss rfl rfl) ?_
          refine LW.nil (hK15 _ _ ?_)
          refine CW.seq fun K16 hK16 => ?_
          by_cases hp4 : t28_1 < ((a1.length : Int))
          ·
            replace F := ite_y hp4 F
            have hq4 := dec_t hp4
            refine CW.condT rfl hq4 ?_
            refine CW.skip (hK16 _ _ ?_)
            refine CW.seq fun K17 hK17 => ?_
            refine CW.block ?_
            refine CW.seq fun K18 hK18 => ?_
            obtain ⟨x1, hbx1, hx1, F⟩ := ix_some F
            refine CW.region ?_
            refine LW.pure rfl rfl (RV.move rfl) ?_
            refine LW.pure rfl rfl (RV.indexAddr Ts25 rfl rfl hbx1 (h_a1.addr_ hx1)) ?_
            refine LW.pure rfl rfl (RV.load1 Tk3 rfl ((h_a1.at_ hx1).ext R0) rfl) ?_
            refine LW.pure rfl rfl (RV.assign rfl) ?_
            refine LW.pure rfl rfl (RV.assign rfl) ?_
            refine LW.nil (hK18 _ _ ?_)
            refine CW.seq fun K19 hK19 => ?_
            refine CW.seq fun K20 hK20 => ?_
            obtain ⟨r1, hr1, F⟩ := bnd_some F
            refine CW.region ?_
            refine LW.pure rfl rfl (RV.loadA [.slice A_a0_worth a0.worth.length c_a0_worth] Tk24 rfl (H.blk 1 rfl).cells rfl rfl) ?_
            refine LW.pure rfl rfl (RV.move rfl) ?_
            refine LW.pure rfl rfl (RV.move rfl) ?_
            refine LW.go rfl rfl (OW.call Tc61 rfl (cut_open_ok (a0 := a0) (a1 := l2) (a2 := x1) (h_a0_worth.ext R0) (H.own 0 rfl).sl hr1) ?_)
            rintro _ w6 ⟨rfl, E3⟩
            refine ⟨_, rfl, ?_⟩
            replace H := H.grow E3
            replace R0 := H.ext
            refine LW.pure rfl rfl (RV.not rfl) ?_
            refine LW.nil (hK20 _ _ ?_)
            by_cases hp5 : r1 = true
            ·
              replace F := ite_y hp5 F
              have hq5 : r1 = true := hp5
              refine CW.condF rfl (not_f hq5) ?_
              refine CW.skip (hK19 _ _ ?_)
              obtain ⟨x2, hbx2, hx2, F⟩ := ix_some F
              obtain ⟨hg2, F⟩ := gd_some F
              obtain ⟨x3, hbx3, hx3, F⟩ := ix_some F
              refine CW.region ?_
              refine LW.pure rfl rfl (RV.move rfl) ?_
              refine LW.pure rfl rfl (RV.move rfl) ?_
              refine LW.pure rfl rfl (RV.indexAddr Ts25 rfl rfl hbx2 ⟨_, rfl⟩) ?_
              refine LW.pure rfl rfl (RV.load1 Tk3 rfl ((H.own 0 rfl).sl.at_ hx2) rfl) ?_
              refine LW.pure rfl rfl (RV.add rfl rfl hg2) ?_
              refine LW.pure rfl rfl (RV.indexAddr Ts25 rfl rfl hbx3 ⟨_, rfl⟩) ?_
              refine LW.go rfl rfl (OW.storeO (enc := encN) (vs := [.int .i64 (x2 + 1)]) 0 (x2 + 1) Tk3 rfl rfl (H.own 0 rfl) (fun _ => rfl) rfl hx3 rfl rfl (by decide) rfl rfl fun w7 M1 O1 => ?_)
              replace H : Hp w w7 [.own (some ⟨b2, 0, none⟩) (((List.replicate (Int.toNat ((a0.worth.length : Int))) (0 : Int))).length) 3 1 (List.map encN ((l2.set (Int.toNat x1) (x2 + 1)))), .blk b1 24 [.slice A_a0_worth a0.worth.length c_a0_worth]] := H.mod 0 rfl M1 O1 (.inl rfl)
              replace R0 := H.ext
              refine LW.nil (hK17 _ _ ?_)
              obtain ⟨hg3, F⟩ := gd_some F
              refine CW.region ?_
              refine LW.pure rfl rfl (RV.add rfl rfl hg3) ?_
              refine LW.pure rfl rfl (RV.move rfl) ?_
              refine LW.nil ?_
              subst hrec1
              refine ⟨mk1, Nat.lt_succ_self _, _, ?_, (t28_1 + 1), ((l2.set (Int.toNat x1) (x2 + 1))), F, rfl, H⟩
              exact ⟨rfl, rfl, rfl, rfl, rfl, (look_slice rfl (by first | rfl | (simp; done) | (simp; omega))), rfl, rfl, rfl, trivial⟩
            ·
              replace F := ite_n hp5 F
              have hq5 : r1 = false := raw_f hp5
              refine CW.condT rfl (not_t hq5) ?_
              refine CW.seq fun K21 hK21 => ?_
              refine CW.region ?_
              refine LW.pure rfl rfl (RV.move rfl) ?_
              refine LW.pure rfl rfl (RV.assign rfl) ?_
              refine LW.pure rfl rfl (RV.assign rfl) ?_
              refine LW.pure rfl rfl (RV.assign rfl) ?_
              refine LW.nil (hK21 _ _ ?_)
              refine CW.ret ?_
              obtain rfl := Option.some.inj F
              refine ⟨_, (ResOK.three rfl rfl rfl), ?_⟩
              replace H := H.nilOwn 3 1
              replace R0 := H.ext
              replace H := H.pick (L' := [.own none 0 3 1 (List.map encN (([] : List Int)))]) [0] (by decide) rfl
              replace R0 := H.ext
              exact ⟨none, 0, (by first | rfl | (simp; done) | (simp; omega)), H⟩
          ·
            replace F := ite_n hp4 F
            have hq4 := dec_f hp4
            refine CW.condF rfl hq4 ?_
            replace H := H.pick (L' := [.own (some ⟨b2, 0, none⟩) (((List.replicate (Int.toNat ((a0.worth.length : Int))) (0 : Int))).length) 3 1 (List.map encN l2)]) [0] (by decide) rfl
            replace R0 := H.ext
            refine CW.exit (jK93 _ _ ⟨_, ?_, ⟨l2, F, rfl, H⟩⟩)
            exact ⟨rfl, rfl, rfl, rfl, (look_slice rfl (by first | rfl | (simp; done) | (simp; omega))), trivial⟩
  ·
    replace F := ite_n hp1 F
    have hq1 := dec_f hp1
    refine CW.condT rfl (not_t hq1) ?_
    refine CW.seq fun K22 hK22 => ?_
    refine CW.region ?_
    refine LW.pure rfl rfl (RV.move rfl) ?_
    refine LW.pure rfl rfl (RV.assign rfl) ?_
    refine LW.pure rfl rfl (RV.assign rfl) ?_
    refine LW.pure rfl rfl (RV.assign rfl) ?_
    refine LW.nil (hK22 _ _ ?_)
    refine CW.ret ?_
    obtain rfl := Option.some.inj F
    refine ⟨_, (ResOK.three rfl rfl rfl), ?_⟩
    replace H := H.nilOwn 3 1
    replace R0 := H.ext
    replace H := H.pick (L' := [.own none 0 3 1 (List.map encN (([] : List Int)))]) [0] (by decide) rfl
    replace R0 := H.ext
    exact ⟨none, 0, (by first | rfl | (simp; done) | (simp; omega)), H⟩

set_option maxRecDepth 20000 in
set_option maxHeartbeats 1000000 in
theorem ref04_Has_ok {a0 : List Int} {a1 : Int} {A_a0 : Option Addr} {c_a0 : Nat} {w : World} {res : Bool} (h_a0 : Sl w A_a0 c_a0 1 (a0.map encN)) (F : ref04_Has a0 a1 = some res) : Calls Try.prog 80 #[.slice A_a0 a0.length c_a0, .int .i64 a1] w (Rt w (.bool res)) := by
  refine calls_of_cw (args := [.slice A_a0 a0.length c_a0, .int .i64 a1]) Try.func80 rfl rfl rfl rfl ?_
  have H := Hp.start w
  have R0 := H.ext
  unfold ref04_Has at F
  refine CW.seq fun K1 hK1 => ?_
  refine CW.region ?_
  refine LW.pure rfl rfl (RV.assign rfl) ?_
  refine LW.nil (hK1 _ _ ?_)
  refine CW.seqJ (fun ρ wl1 => (ref04_Has_k1 = some res ∧ ρ = [(4, .bool false)] ∧ Hp w wl1 [])) ?_ ?_
  ·
    rintro _ wl1 ⟨F, rfl, H⟩
    have R0 := H.ext
    unfold ref04_Has_k1 at F
    refine CW.seq fun K2 hK2 => ?_
    refine CW.region ?_
    refine LW.pure rfl rfl (RV.assign rfl) ?_
    refine LW.nil (hK2 _ _ ?_)
    refine CW.ret ?_
    obtain rfl := Option.some.inj F
    refine ⟨_, (ResOK.one rfl), ?_⟩
    refine ⟨(by first | rfl | simp), R0⟩
  ·
    intro K3 hK3 jK54
    refine CW.seq fun K4 hK4 => ?_
    refine CW.region ?_
    refine LW.pure rfl rfl (RV.assign rfl) ?_
    refine LW.nil (hK4 _ _ ?_)
    refine CW.block ?_
    refine CW.loop (fun meas ρ wl2 => ∃ (t5_1 : Int), ref04_Has_L1 a0 a1 meas t5_1 = some res ∧ ρ = [(0, .slice A_a0 a0.length c_a0), (1, .int .i64 a1), (4, .bool false), (5, .int .i64 t5_1)] ∧ Hp w wl2 []) FU ⟨_, ?_, ((0 : Int)), F, rfl, H⟩ ?_
    · exact ⟨rfl, rfl, rfl, rfl, trivial⟩
    rintro mk1 _ wl2 ⟨t5_1, F, rfl, H⟩
    have R0 := H.ext
    replace F := ref04_Has_L1_s F
    obtain ⟨mk1, rfl, F⟩ := F
    generalize hrec1 : ref04_Has_L1 a0 a1 mk1 = rec1 at F
    unfold ref04_Has_B1 at F
    refine CW.seq fun K5 hK5 => ?_
    refine CW.seq fun K6 hK6 => ?_
    refine CW.region ?_
    refine LW.pure rfl rfl (RV.move rfl) ?_
    refine LW.pure rfl rfl (RV.move rfl) ?_
    refine LW.pure rfl rfl (RV.len Ts25 rfl) ?_
    refine LW.pure rfl rfl (RV.lss rfl rfl) ?_
    refine LW.nil (hK6 _ _ ?_)
    by_cases hp1 : t5_1 < ((a0.length : Int))
    ·
      replace F := ite_y hp1 F
      have hq1 := dec_t hp1
      refine CW.condT rfl hq1 ?_
      refine CW.skip (hK5 _ _ ?_)
      refine CW.seq fun K7 hK7 => ?_
      refine CW.block ?_
      refine CW.seq fun K8 hK8 => ?_
      obtain ⟨x1, hbx1, hx1, F⟩ := ix_some F
      refine CW.region ?_
      refine LW.pure rfl rfl (RV.move rfl) ?_
      refine LW.pure rfl rfl (RV.move rfl) ?_
      refine LW.pure rfl rfl (RV.indexAddr Ts25 rfl rfl hbx1 (h_a0.addr_ hx1)) ?_
      refine LW.pure rfl rfl (RV.load1 Tk3 rfl ((h_a0.at_ hx1).ext R0) rfl) ?_
      refine LW.pure rfl rfl (RV.move rfl) ?_
      refine LW.pure rfl rfl (RV.eqi rfl rfl) ?_
      refine LW.nil (hK8 _ _ ?_)
      by_cases hp2 : x1 = a1
      ·
        replace F := ite_y hp2 F
        have hq2 := dec_t hp2
        refine CW.condT rfl hq2 ?_
        refine CW.seq fun K9 hK9 => ?_
        refine CW.region ?_
        refine LW.pure rfl rfl (RV.assign rfl) ?_
        refine LW.nil (hK9 _ _ ?_)
        refine CW.ret ?_
        obtain rfl := Option.some.inj F
        refine ⟨_, (ResOK.one rfl), ?_⟩
        refine ⟨(by first | rfl | simp), R0⟩
      ·
        replace F := ite_n hp2 F
        have hq2 := dec_f hp2
        refine CW.condF rfl hq2 ?_
        refine CW.skip (hK7 _ _ ?_)
        obtain ⟨hg1, F⟩ := gd_some F
        refine CW.region ?_
        refine LW.pure rfl rfl (RV.move rfl) ?_
        refine LW.pure rfl rfl (RV.add rfl rfl hg1) ?_
        refine LW.pure rfl rfl (RV.assign rfl) ?_
        refine LW.nil ?_
        subst hrec1
        refine ⟨mk1, Nat.lt_succ_self _, _, ?_, (t5_1 + 1), F, rfl, H⟩
        exact ⟨rfl, rfl, rfl, rfl, trivial⟩
    ·
      replace F := ite_n hp1 F
      have hq1 := dec_f hp1
      refine CW.condF rfl hq1 ?_
      refine CW.exit (jK54 _ _ ⟨_, ?_, ⟨F, rfl, H⟩⟩)
      exact ⟨rfl, trivial⟩

set_option maxRecDepth 20000 in
set_option maxHeartbeats 1000000 in
theorem ref04_CheckOrder_ok {a0 : Bog} {a1 : List Int} {A_a0_worth : Option Addr} {c_a0_worth : Nat} {A_a1 : Option Addr} {c_a1 : Nat} {w : World} {res : (List Int) × Int × Int} (h_a0_worth : Sl2 w A_a0_worth c_a0_worth 1 encN a0.worth) (h_a1 : Sl w A_a1 c_a1 1 (a1.map encN)) (F : ref04_CheckOrder a0 a1 = some res) : Calls Try.prog 34 #[.agg #[.slice A_a0_worth a0.worth.length c_a0_worth], .slice A_a1 a1.length c_a1] w (fun e w' => ∃ (A0 : Option Addr) (c0 : Nat), e = .returned (.tuple #[.slice A0 res.1.length c0, .int .i64 res.2.1, .int .i64 res.2.2]) ∧ Hp w w' [.own A0 c0 3 1 (List.map encN res.1)]) := by
  refine calls_of_cw (args := [.agg #[.slice A_a0_worth a0.worth.length c_a0_worth], .slice A_a1 a1.length c_a1]) Try.func34 rfl rfl rfl rfl ?_
  have H := Hp.start w
  have R0 := H.ext
  unfold ref04_CheckOrder at F
  refine CW.seq fun K1 hK1 => ?_
  refine CW.region ?_
  refine LW.go rfl rfl (OW.box rfl fun b1 w1 N1 => ?_)
  replace H := H.new N1 N1.blk
  replace R0 := H.ext
  refine LW.pure rfl rfl (RV.assign rfl) ?_
  refine LW.pure rfl rfl (RV.assign rfl) ?_
  refine LW.pure rfl rfl (RV.assign rfl) ?_
  refine LW.nil (hK1 _ _ ?_)
  refine CW.seq fun K2 hK2 => ?_
  obtain ⟨r3, hr3, F⟩ := bnd_some F
  refine CW.region ?_
  refine LW.pure rfl rfl (RV.loadA [.slice A_a0_worth a0.worth.length c_a0_worth] Tk24 rfl (H.blk 0 rfl).cells rfl rfl) ?_
  refine LW.go rfl rfl (OW.call Tc26 rfl (ref04_Validate_ok (a0 := a0) (h_a0_worth.ext R0) hr3) ?_)
  rintro _ w2 ⟨rfl, E1⟩
  refine ⟨_, rfl, ?_⟩
  replace H := H.grow E1
  replace R0 := H.ext
  refine LW.pure rfl rfl (RV.assign rfl) ?_
  refine LW.nil (hK2 _ _ ?_)
  refine CW.seq fun K3 hK3 => ?_
  refine CW.seq fun K4 hK4 => ?_
  refine CW.region ?_
  refine LW.pure rfl rfl (RV.move rfl) ?_
  refine LW.pure rfl rfl (RV.nei rfl rfl) ?_
  refine LW.nil (hK4 _ _ ?_)
  by_cases hp1 : r3 = 0
  ·
    replace F := ite_y hp1 F
    have hq1 := dec_t hp1
    refine CW.condF rfl (not_f hq1) ?_
    refine CW.skip (hK3 _ _ ?_)
    refine CW.seq fun K5 hK5 => ?_
    refine CW.seq fun K6 hK6 => ?_
    refine CW.region ?_
    refine LW.pure rfl rfl (RV.move rfl) ?_
    refine LW.pure rfl rfl (RV.len Ts25 rfl) ?_
    refine LW.pure rfl rfl (RV.gtr rfl rfl) ?_
    refine LW.nil (hK6 _ _ ?_)
    by_cases hp2 : (24 : Int) < ((a1.length : Int))
    ·
      replace F := ite_y hp2 F
      have hq2 := dec_t hp2
      refine CW.condT rfl hq2 ?_
      refine CW.seq fun K7 hK7 => ?_
      refine CW.region ?_
      refine LW.pure rfl rfl (RV.assign rfl) ?_
      refine LW.pure rfl rfl (RV.assign rfl) ?_
      refine LW.pure rfl rfl (RV.assign rfl) ?_
      refine LW.nil (hK7 _ _ ?_)
      refine CW.ret ?_
      obtain rfl := Option.some.inj F
      refine ⟨_, (ResOK.three rfl rfl rfl), ?_⟩
      replace H := H.nilOwn 3 1
      replace R0 := H.ext
      replace H := H.pick (L' := [.own none 0 3 1 (List.map encN (([] : List Int)))]) [0] (by decide) rfl
      replace R0 := H.ext
      exact ⟨none, 0, (by first | rfl | (simp; done) | (simp; omega)), H⟩
    ·
      replace F := ite_n hp2 F
      have hq2 := dec_f hp2
      refine CW.condF rfl hq2 ?_
      refine CW.skip (hK5 _ _ ?_)
      refine CW.seqJ (fun ρ wl1 => (ref04_CheckOrder_k2 a0 a1 = some res ∧ ρ = [(1, .slice A_a1 a1.length c_a1), (2, .pointer (some (⟨b1, 0, none⟩))), (4, .slice none 0 0), (5, .int .i64 0), (6, .int .i64 0)] ∧ Hp w wl1 [.blk b1 24 [.slice A_a0_worth a0.worth.length c_a0_worth]])) ?_ ?_
      ·
        rintro _ wl1 ⟨F, rfl, H⟩
        have R0 := H.ext
        unfold ref04_CheckOrder_k2 at F
        refine CW.seq fun K8 hK8 => ?_
        obtain ⟨hg1, F⟩ := gd_some F
        refine CW.region ?_
        refine LW.pure rfl rfl (RV.fieldAddr Tf24_0 rfl) ?_
        refine LW.pure rfl rfl (RV.load1 Tk22 rfl ((H.blk 0 rfl).cells.off 0) rfl) ?_
        refine LW.pure rfl rfl (RV.len Ts22 rfl) ?_
        refine LW.go rfl rfl (OW.makeR (enc := encN) (0 : Int) Ts25 rfl rfl rfl rfl rfl hg1 (by decide) fun b2 w3 N2 => ?_)
        replace H := H.made' (k := 1) (t := 3) (enc := encN) (l := (List.replicate (Int.toNat ((a0.worth.length : Int))) (0 : Int))) N2 N2.blk (fun _ => rfl) rfl (by first | decide | omega | (simp; done) | (simp; omega))
        replace R0 := H.ext
        refine LW.pure rfl rfl (RV.assign rfl) ?_
        refine LW.nil (hK8 _ _ ?_)
        refine CW.seqJ (fun ρ wl2 => (∃ (l1 : List Int), ref04_CheckOrder_k1 a1 l1 = some res ∧ ρ = [(1, .slice A_a1 a1.length c_a1), (4, .slice none 0 0), (5, .int .i64 0), (6, .int .i64 0), (9, .slice (some ⟨b2, 0, none⟩) l1.length (((List.replicate (Int.toNat ((a0.worth.length : Int))) (0 : Int))).length))] ∧ Hp w wl2 [.own (some ⟨b2, 0, none⟩) (((List.replicate (Int.toNat ((a0.worth.length : Int))) (0 : Int))).length) 3 1 (List.map encN l1)])) ?_ ?_
        ·
          rintro _ wl2 ⟨l1, F, rfl, H⟩
          have R0 := H.ext
          unfold ref04_CheckOrder_k1 at F
          refine CW.seq fun K9 hK9 => ?_
          refine CW.region ?_
          refine LW.pure rfl rfl (RV.move rfl) ?_
          refine LW.pure rfl rfl (RV.move rfl) ?_
          refine LW.pure rfl rfl (RV.len Ts25 rfl) ?_
          refine LW.pure rfl rfl (RV.assign rfl) ?_
          refine LW.pure rfl rfl (RV.assign rfl) ?_
          refine LW.pure rfl rfl (RV.assign rfl) ?_
          refine LW.nil (hK9 _ _ ?_)
          refine CW.ret ?_
          obtain rfl := Option.some.inj F
          refine ⟨_, (ResOK.three rfl rfl rfl), ?_⟩
          exact ⟨(some ⟨b2, 0, none⟩), (((List.replicate (Int.toNat ((a0.worth.length : Int))) (0 : Int))).length), (by first | rfl | (simp; done) | (simp; omega)), H⟩
        ·
          intro K10 hK10 jK127
          refine CW.seq fun K11 hK11 => ?_
          refine CW.region ?_
          refine LW.pure rfl rfl (RV.assign rfl) ?_
          refine LW.nil (hK11 _ _ ?_)
          refine CW.block ?_
          refine CW.loop (fun meas ρ wl3 => ∃ (t10_1 : Int) (l2 : List Int), ref04_CheckOrder_L1 a0 a1 meas t10_1 l2 = some res ∧ ρ = [(1, .slice A_a1 a1.length c_a1), (2, .pointer (some (⟨b1, 0, none⟩))), (4, .slice none 0 0), (5, .int .i64 0), (6, .int .i64 0), (9, .slice (some ⟨b2, 0, none⟩) l2.length (((List.replicate (Int.toNat ((a0.worth.length : Int))) (0 : Int))).length)), (10, .int .i64 t10_1)] ∧ Hp w wl3 [.own (some ⟨b2, 0, none⟩) (((List.replicate (Int.toNat ((a0.worth.length : Int))) (0 : Int))).length) 3 1 (List.map encN l2), .blk b1 24 [.slice A_a0_worth a0.worth.length c_a0_worth]]) FU ⟨_, ?_, ((0 : Int)), ((List.replicate (Int.toNat ((a0.worth.length : Int))) (0 : Int))), F, rfl, H⟩ ?_
          · exact ⟨rfl, rfl, rfl, rfl, rfl, (look_slice rfl (by first | rfl | (simp; done) | (simp; omega))), rfl, trivial⟩
          rintro mk1 _ wl3 ⟨t10_1, l2, F, rfl, H⟩
          have R0 := H.ext
          replace F := ref04_CheckOrder_L1_s F
          obtain ⟨mk1, rfl, F⟩ := F
          generalize hrec1 : ref04_CheckOrder_L1 a0 a1 mk1 = rec1 at F
          unfold ref04_CheckOrder_B1 at F
          refine CW.seq fun K12 hK12 => ?_
          refine CW.seq fun K13 hK13 => ?_
          refine CW.region ?_
          refine LW.pure rfl rfl (RV.move rfl) ?_
          refine LW.pure rfl rfl (RV.move rfl) ?_
          refine LW.pure rfl rfl (RV.len Ts25 rfl) ?_
          refine LW.pure rfl rfl (RV.lss rfl rfl) ?_
          refine LW.nil (hK13 _ _ ?_)
          by_cases hp3 : t10_1 < ((a1.length : Int))
          ·
            replace F := ite_y hp3 F
            have hq3 := dec_t hp3
            refine CW.condT rfl hq3 ?_
            refine CW.skip (hK12 _ _ ?_)
            refine CW.seq fun K14 hK14 => ?_
            refine CW.block ?_
            refine CW.seq fun K15 hK15 => ?_
            refine CW.seq fun K16 hK16 => ?_
            obtain ⟨r1, hr1, F⟩ := bnd_some F
            obtain ⟨x1, hbx1, hx1, F⟩ := ix_some F
            obtain ⟨r2, hr2, F⟩ := bnd_some F
            refine CW.draw [] (fun _ => True) (.cons 0 1 (.cons 1 1 (.cons 3 1 (.cons 4 1 (.cons 5 1 (.cons 6 1 (.cons 2 0 (.cons 7 0 (.cons 8 1 .nil))))))))) mixed (by kernel_rfl) fun w4 E2 => ?_
            replace H := H.grow E2
            replace R0 := H.ext
            refine DW.fix rfl rfl rfl (fun _ EQ => RV.loadA [.slice A_a0_worth a0.worth.length c_a0_worth] Tk24 rfl ((H.grow EQ).blk 1 rfl).cells rfl rfl) ?_
            refine DW.fix rfl rfl rfl (fun _ EQ => RV.move rfl) ?_
            refine DW.fix rfl rfl rfl (fun _ EQ => RV.move rfl) ?_
            refine DW.fix rfl rfl rfl (fun _ EQ => RV.move rfl) ?_
            refine DW.fix rfl rfl rfl (fun _ EQ => RV.indexAddr Ts25 rfl rfl hbx1 (h_a1.addr_ hx1)) ?_
            refine DW.fix rfl rfl rfl (fun _ EQ => RV.load1 Tk3 rfl ((h_a1.at_ hx1).ext (R0.trans EQ)) rfl) ?_
            refine DW.sole rfl rfl rfl (OW.call Tc62 rfl (ref04_open_ok (a0 := a0) (a1 := l2) (h_a0_worth.ext R0) (H.own 0 rfl).sl hr1) ?_)
            rintro _ w5 ⟨A28_0, c28_0, rfl, E3⟩
            refine ⟨_, rfl, fun _ => E3.ext, ModX.ext E3.ext, ?_⟩
            replace H : Hp w w5 [.own A28_0 c28_0 3 1 (List.map encN r1), .own (some ⟨b2, 0, none⟩) (((List.replicate (Int.toNat ((a0.worth.length : Int))) (0 : Int))).length) 3 1 (List.map encN l2), .blk b1 24 [.slice A_a0_worth a0.worth.length c_a0_worth]] := H.append E3
            replace R0 := H.ext
            refine DW.sole rfl rfl rfl (OW.call Tc80 rfl (ref04_Has_ok (a0 := r1) (a1 := x1) (H.own 0 rfl).sl hr2) ?_)
            rintro _ w6 ⟨rfl, E4⟩
            refine ⟨_, rfl, fun _ => E4, ModX.ext E4, ?_⟩
            replace H := H.grow E4
            replace R0 := H.ext
            refine DW.fix rfl rfl rfl (fun _ EQ => RV.not rfl) ?_
            refine DW.nil (hK16 _ _ ?_)
            by_cases hp4 : r2 = true
            ·
              replace F := ite_y hp4 F
              have hq4 : r2 = true := hp4
              refine CW.condF rfl (not_f hq4) ?_
              refine CW.skip (hK15 _ _ ?_)
              obtain ⟨x2, hbx2, hx2, F⟩ := ix_some F
              obtain ⟨x3, hbx3, hx3, F⟩ := ix_some F
              obtain ⟨hg2, F⟩ := gd_some F
              obtain ⟨x4, hbx4, hx4, F⟩ := ix_some F
              refine CW.region ?_
              refine LW.pure rfl rfl (RV.move rfl) ?_
              refine LW.pure rfl rfl (RV.move rfl) ?_
              refine LW.pure rfl rfl (RV.move rfl) ?_
              refine LW.pure rfl rfl (RV.indexAddr Ts25 rfl rfl hbx2 (h_a1.addr_ hx2)) ?_
              refine LW.pure rfl rfl (RV.load1 Tk3 rfl ((h_a1.at_ hx2).ext R0) rfl) ?_
              refine LW.pure rfl rfl (RV.indexAddr Ts25 rfl rfl hbx3 ⟨_, rfl⟩) ?_
              refine LW.pure rfl rfl (RV.load1 Tk3 rfl ((H.own 1 rfl).sl.at_ hx3) rfl) ?_
              refine LW.pure rfl rfl (RV.add rfl rfl hg2) ?_
              refine LW.pure rfl rfl (RV.indexAddr Ts25 rfl rfl hbx4 ⟨_, rfl⟩) ?_
              refine LW.go rfl rfl (OW.storeO (enc := encN) (vs := [.int .i64 (x3 + 1)]) 0 (x3 + 1) Tk3 rfl rfl (H.own 1 rfl) (fun _ => rfl) rfl hx4 rfl rfl (by decide) rfl rfl fun w7 M1 O1 => ?_)
              replace H : Hp w w7 [.own A28_0 c28_0 3 1 (List.map encN r1), .own (some ⟨b2, 0, none⟩) (((List.replicate (Int.toNat ((a0.worth.length : Int))) (0 : Int))).length) 3 1 (List.map encN ((l2.set (Int.toNat x2) (x3 + 1)))), .blk b1 24 [.slice A_a0_worth a0.worth.length c_a0_worth]] := H.mod 1 rfl M1 O1 (.inl rfl)
              replace R0 := H.ext
              refine LW.nil (hK14 _ _ ?_)
              obtain ⟨hg3, F⟩ := gd_some F
              refine CW.region ?_
              refine LW.pure rfl rfl (RV.move rfl) ?_
              refine LW.pure rfl rfl (RV.add rfl rfl hg3) ?_
              refine LW.pure rfl rfl (RV.assign rfl) ?_
              refine LW.nil ?_
              replace H := H.pick (L' := [.own (some ⟨b2, 0, none⟩) (((List.replicate (Int.toNat ((a0.worth.length : Int))) (0 : Int))).length) 3 1 (List.map encN ((l2.set (Int.toNat x2) (x3 + 1)))), .blk b1 24 [.slice A_a0_worth a0.worth.length c_a0_worth]]) [1, 2] (by decide) rfl
              replace R0 := H.ext
              subst hrec1
              refine ⟨mk1, Nat.lt_succ_self _, _, ?_, (t10_1 + 1), ((l2.set (Int.toNat x2) (x3 + 1))), F, rfl, H⟩
              exact ⟨rfl, rfl, rfl, rfl, rfl, (look_slice rfl (by first | rfl | (simp; done) | (simp; omega))), rfl, trivial⟩
            ·
              replace F := ite_n hp4 F
              have hq4 : r2 = false := raw_f hp4
              refine CW.condT rfl (not_t hq4) ?_
              refine CW.seq fun K17 hK17 => ?_
              refine CW.region ?_
              refine LW.pure rfl rfl (RV.move rfl) ?_
              refine LW.pure rfl rfl (RV.assign rfl) ?_
              refine LW.pure rfl rfl (RV.assign rfl) ?_
              refine LW.pure rfl rfl (RV.assign rfl) ?_
              refine LW.nil (hK17 _ _ ?_)
              refine CW.ret ?_
              obtain rfl := Option.some.inj F
              refine ⟨_, (ResOK.three rfl rfl rfl), ?_⟩
              replace H := H.nilOwn 3 1
              replace R0 := H.ext
              replace H := H.pick (L' := [.own none 0 3 1 (List.map encN (([] : List Int)))]) [0] (by decide) rfl
              replace R0 := H.ext
              exact ⟨none, 0, (by first | rfl | (simp; done) | (simp; omega)), H⟩
          ·
            replace F := ite_n hp3 F
            have hq3 := dec_f hp3
            refine CW.condF rfl hq3 ?_
            replace H := H.pick (L' := [.own (some ⟨b2, 0, none⟩) (((List.replicate (Int.toNat ((a0.worth.length : Int))) (0 : Int))).length) 3 1 (List.map encN l2)]) [0] (by decide) rfl
            replace R0 := H.ext
            refine CW.exit (jK127 _ _ ⟨_, ?_, ⟨l2, F, rfl, H⟩⟩)
            exact ⟨rfl, rfl, rfl, rfl, (look_slice rfl (by first | rfl | (simp; done) | (simp; omega))), trivial⟩
      ·
        intro K18 hK18 jK147
        refine CW.seq fun K19 hK19 => ?_
        refine CW.region ?_
        refine LW.pure rfl rfl (RV.assign rfl) ?_
        refine LW.nil (hK19 _ _ ?_)
        refine CW.block ?_
        refine CW.loop (fun meas ρ wl4 => ∃ (t8_1 : Int), ref04_CheckOrder_L2 a0 a1 meas t8_1 = some res ∧ ρ = [(1, .slice A_a1 a1.length c_a1), (2, .pointer (some (⟨b1, 0, none⟩))), (4, .slice none 0 0), (5, .int .i64 0), (6, .int .i64 0), (8, .int .i64 t8_1)] ∧ Hp w wl4 [.blk b1 24 [.slice A_a0_worth a0.worth.length c_a0_worth]]) FU ⟨_, ?_, ((0 : Int)), F, rfl, H⟩ ?_
        · exact ⟨rfl, rfl, rfl, rfl, rfl, rfl, trivial⟩
        rintro mk2 _ wl4 ⟨t8_1, F, rfl, H⟩
        have R0 := H.ext
        replace F := ref04_CheckOrder_L2_s F
        obtain ⟨mk2, rfl, F⟩ := F
        generalize hrec2 : ref04_CheckOrder_L2 a0 a1 mk2 = rec2 at F
        unfold ref04_CheckOrder_B2 at F
        refine CW.seq fun K20 hK20 => ?_
        refine CW.seq fun K21 hK21 => ?_
        refine CW.region ?_
        refine LW.pure rfl rfl (RV.move rfl) ?_
        refine LW.pure rfl rfl (RV.move rfl) ?_
        refine LW.pure rfl rfl (RV.len Ts25 rfl) ?_
        refine LW.pure rfl rfl (RV.lss rfl rfl) ?_
        refine LW.nil (hK21 _ _ ?_)
        by_cases hp5 : t8_1 < ((a1.length : Int))
        ·
          replace F := ite_y hp5 F
          have hq5 := dec_t hp5
          refine CW.condT rfl hq5 ?_
          refine CW.skip (hK20 _ _ ?_)
          refine CW.seq fun K22 hK22 => ?_
          refine CW.block ?_
          refine CW.seqJ (fun ρ wl5 => (∃ (t39_1 : Bool), ref04_CheckOrder_k3 t8_1 rec2 t39_1 = some res ∧ ρ = [(1, .slice A_a1 a1.length c_a1), (2, .pointer (some (⟨b1, 0, none⟩))), (4, .slice none 0 0), (5, .int .i64 0), (6, .int .i64 0), (8, .int .i64 t8_1), (39, .bool t39_1)] ∧ Hp w wl5 [.blk b1 24 [.slice A_a0_worth a0.worth.length c_a0_worth]])) ?_ ?_
          ·
            rintro _ wl5 ⟨t39_1, F, rfl, H⟩
            have R0 := H.ext
            unfold ref04_CheckOrder_k3 at F
            by_cases hp6 : t39_1 = true
            ·
              replace F := ite_y hp6 F
              have hq6 : t39_1 = true := hp6
              refine CW.condT rfl hq6 ?_
              refine CW.seq fun K23 hK23 => ?_
              refine CW.region ?_
              refine LW.pure rfl rfl (RV.assign rfl) ?_
              refine LW.pure rfl rfl (RV.assign rfl) ?_
              refine LW.pure rfl rfl (RV.assign rfl) ?_
              refine LW.nil (hK23 _ _ ?_)
              refine CW.ret ?_
              obtain rfl := Option.some.inj F
              refine ⟨_, (ResOK.three rfl rfl rfl), ?_⟩
              replace H := H.nilOwn 3 1
              replace R0 := H.ext
              replace H := H.pick (L' := [.own none 0 3 1 (List.map encN (([] : List Int)))]) [0] (by decide) rfl
              replace R0 := H.ext
              exact ⟨none, 0, (by first | rfl | (simp; done) | (simp; omega)), H⟩
            ·
              replace F := ite_n hp6 F
              have hq6 : t39_1 = false := raw_f hp6
              refine CW.condF rfl hq6 ?_
              refine CW.skip (hK22 _ _ ?_)
              obtain ⟨hg4, F⟩ := gd_some F
              refine CW.region ?_
              refine LW.pure rfl rfl (RV.move rfl) ?_
              refine LW.pure rfl rfl (RV.add rfl rfl hg4) ?_
              refine LW.pure rfl rfl (RV.assign rfl) ?_
              refine LW.nil ?_
              subst hrec2
              refine ⟨mk2, Nat.lt_succ_self _, _, ?_, (t8_1 + 1), F, rfl, H⟩
              exact ⟨rfl, rfl, rfl, rfl, rfl, rfl, trivial⟩
          ·
            intro K24 hK24 jK163
            obtain ⟨x5, hbx5, hx5, F⟩ := ix_some F
            by_cases hp7 : x5 < 0
            ·
              replace F := ite_y hp7 F
              have hq7 := dec_t hp7
              refine CW.draw [] (fun _ => True) (.cons 0 1 (.cons 1 1 (.cons 2 1 (.cons 3 1 (.cons 4 1 (.cons 5 1 (.cons 6 1 (.cons 7 1 (.cons 8 1 (.cons 9 1 (.cons 10 1 (.cons 11 1 (.cons 12 1 (.cons 13 1 (.cons 14 1 .nil))))))))))))))) mixed (by kernel_rfl) fun w8 E5 => ?_
              replace H := H.grow E5
              replace R0 := H.ext
              refine DW.fix rfl rfl rfl (fun _ EQ => RV.move rfl) ?_
              refine DW.fix rfl rfl rfl (fun _ EQ => RV.move rfl) ?_
              refine DW.fix rfl rfl rfl (fun _ EQ => RV.indexAddr Ts25 rfl rfl hbx5 (h_a1.addr_ hx5)) ?_
              refine DW.fix rfl rfl rfl (fun _ EQ => RV.load1 Tk3 rfl ((h_a1.at_ hx5).ext (R0.trans EQ)) rfl) ?_
              refine DW.fix rfl rfl rfl (fun _ EQ => RV.lss rfl rfl) ?_
              refine DW.fix rfl rfl rfl (fun _ EQ => RV.move rfl) ?_
              refine DW.fixNB rfl rfl rfl rfl rfl (ne_beq (v := true) hq7 rfl) ?_
              refine DW.fixNB rfl rfl rfl rfl rfl (ne_beq (v := true) hq7 rfl) ?_
              refine DW.fixNB rfl rfl rfl rfl rfl (ne_beq (v := true) hq7 rfl) ?_
              refine DW.fixNB rfl rfl rfl rfl rfl (ne_beq (v := true) hq7 rfl) ?_
              refine DW.fixNB rfl rfl rfl rfl rfl (ne_beq (v := true) hq7 rfl) ?_
              refine DW.fixNB rfl rfl rfl rfl rfl (ne_beq (v := true) hq7 rfl) ?_
              refine DW.fixNB rfl rfl rfl rfl rfl (ne_beq (v := true) hq7 rfl) ?_
              refine DW.fixNB rfl rfl rfl rfl rfl (ne_beq (v := true) hq7 rfl) ?_
              refine DW.fix rfl rfl rfl (fun _ EQ => RV.pickTB rfl hq7 rfl) ?_
              refine DW.nil (jK163 _ _ ⟨_, ?_, ⟨true, F, rfl, H⟩⟩)
              exact ⟨rfl, rfl, rfl, rfl, rfl, rfl, rfl, trivial⟩
            ·
              replace F := ite_n hp7 F
              have hq7 := dec_f hp7
              obtain ⟨x6, hbx6, hx6, F⟩ := ix_some F
              refine CW.draw [] (fun _ => True) (.cons 0 1 (.cons 1 1 (.cons 2 1 (.cons 3 1 (.cons 4 1 (.cons 5 1 (.cons 6 1 (.cons 7 1 (.cons 8 1 (.cons 9 1 (.cons 10 1 (.cons 11 1 (.cons 12 1 (.cons 13 1 (.cons 14 1 .nil))))))))))))))) mixed (by kernel_rfl) fun w9 E6 => ?_
              replace H := H.grow E6
              replace R0 := H.ext
              refine DW.fix rfl rfl rfl (fun _ EQ => RV.move rfl) ?_
              refine DW.fix rfl rfl rfl (fun _ EQ => RV.move rfl) ?_
              refine DW.fix rfl rfl rfl (fun _ EQ => RV.indexAddr Ts25 rfl rfl hbx5 (h_a1.addr_ hx5)) ?_
              refine DW.fix rfl rfl rfl (fun _ EQ => RV.load1 Tk3 rfl ((h_a1.at_ hx5).ext (R0.trans EQ)) rfl) ?_
              refine DW.fix rfl rfl rfl (fun _ EQ => RV.lss rfl rfl) ?_
              refine DW.fix rfl rfl rfl (fun _ EQ => RV.move rfl) ?_
              refine DW.fixYB rfl rfl rfl rfl rfl hq7 (fun _ EQ => RV.move rfl) ?_
              refine DW.fixYB rfl rfl rfl rfl rfl hq7 (fun _ EQ => RV.move rfl) ?_
              refine DW.fixYB rfl rfl rfl rfl rfl hq7 (fun _ EQ => RV.indexAddr Ts25 rfl rfl hbx6 (h_a1.addr_ hx6)) ?_
              refine DW.fixYB rfl rfl rfl rfl rfl hq7 (fun _ EQ => RV.load1 Tk3 rfl ((h_a1.at_ hx6).ext (R0.trans EQ)) rfl) ?_
              refine DW.fixYB rfl rfl rfl rfl rfl hq7 (fun _ EQ => RV.fieldAddr Tf24_0 rfl) ?_
              refine DW.fixYB rfl rfl rfl rfl rfl hq7 (fun _ EQ => RV.load1 Tk22 rfl (((H.grow EQ).blk 0 rfl).cells.off 0) rfl) ?_
              refine DW.fixYB rfl rfl rfl rfl rfl hq7 (fun _ EQ => RV.len Ts22 rfl) ?_
              refine DW.fixYB rfl rfl rfl rfl rfl hq7 (fun _ EQ => RV.geq rfl rfl) ?_
              refine DW.fix rfl rfl rfl (fun _ EQ => RV.pickFB rfl hq7 rfl) ?_
              refine DW.nil (jK163 _ _ ⟨_, ?_, ⟨(decide (((a0.worth.length : Int)) ≤ x6)), F, rfl, H⟩⟩)
              exact ⟨rfl, rfl, rfl, rfl, rfl, rfl, rfl, trivial⟩
        ·
          replace F := ite_n hp5 F
          have hq5 := dec_f hp5
          refine CW.condF rfl hq5 ?_
          refine CW.exit (jK147 _ _ ⟨_, ?_, ⟨F, rfl, H⟩⟩)
          exact ⟨rfl, rfl, rfl, rfl, rfl, trivial⟩
  ·
    replace F := ite_n hp1 F
    have hq1 := dec_f hp1
    refine CW.condT rfl (not_t hq1) ?_
    refine CW.seq fun K25 hK25 => ?_
    refine CW.region ?_
    refine LW.pure rfl rfl (RV.move rfl) ?_
    refine LW.pure rfl rfl (RV.assign rfl) ?_
    refine LW.pure rfl rfl (RV.assign rfl) ?_
    refine LW.pure rfl rfl (RV.assign rfl) ?_
    refine LW.nil (hK25 _ _ ?_)
    refine CW.ret ?_
    obtain rfl := Option.some.inj F
    refine ⟨_, (ResOK.three rfl rfl rfl), ?_⟩
    replace H := H.nilOwn 3 1
    replace R0 := H.ext
    replace H := H.pick (L' := [.own none 0 3 1 (List.map encN (([] : List Int)))]) [0] (by decide) rfl
    replace R0 := H.ext
    exact ⟨none, 0, (by first | rfl | (simp; done) | (simp; omega)), H⟩

set_option maxRecDepth 20000 in
set_option maxHeartbeats 1000000 in
theorem law04_CutOrders_ok {a0 : Bog} {a1 : List Int} {A_a0_worth : Option Addr} {c_a0_worth : Nat} {A_a1 : Option Addr} {c_a1 : Nat} {w : World} {res : Bool} (h_a0_worth : Sl2 w A_a0_worth c_a0_worth 1 encN a0.worth) (h_a1 : Sl w A_a1 c_a1 1 (a1.map encN)) (F : law04_CutOrders a0 a1 = some res) : Calls Try.prog 6 #[.agg #[.slice A_a0_worth a0.worth.length c_a0_worth], .slice A_a1 a1.length c_a1] w (Rt w (.bool res)) := by
  refine calls_of_cw (args := [.agg #[.slice A_a0_worth a0.worth.length c_a0_worth], .slice A_a1 a1.length c_a1]) Try.func6 rfl rfl rfl rfl ?_
  have H := Hp.start w
  have R0 := H.ext
  unfold law04_CutOrders at F
  refine CW.seq fun K1 hK1 => ?_
  refine CW.region ?_
  refine LW.go rfl rfl (OW.box rfl fun b1 w1 N1 => ?_)
  replace H := H.new N1 N1.blk
  replace R0 := H.ext
  refine LW.pure rfl rfl (RV.assign rfl) ?_
  refine LW.nil (hK1 _ _ ?_)
  refine CW.seq fun K2 hK2 => ?_
  refine CW.seq fun K3 hK3 => ?_
  obtain ⟨r1, hr1, F⟩ := bnd_some F
  refine CW.region ?_
  refine LW.pure rfl rfl (RV.loadA [.slice A_a0_worth a0.worth.length c_a0_worth] Tk24 rfl (H.blk 0 rfl).cells rfl rfl) ?_
  refine LW.pure rfl rfl (RV.move rfl) ?_
  refine LW.go rfl rfl (OW.buildSlice (e := 25) (vs := [.slice A_a1 a1.length c_a1]) (cs := [.slice A_a1 a1.length c_a1]) rfl (fun _ => by kernel_rfl) fun b2 w2 N2 => ?_)
  replace H := H.made' (k := 1) (t := 25) (enc := encH) (l := ([((A_a1, c_a1), a1)] : List ((Option Addr × Nat) × List Int))) N2 (by have q := N2.blk; simp only [List.flatMap_cons, List.flatMap_nil, encH, List.length_nil, List.append_nil, List.cons_append, List.nil_append]; first | done | exact q) (fun _ => rfl) rfl (by first | decide | omega | (simp; done) | (simp; omega))
  replace R0 := H.ext
  have hS23 : Sl2 w2 (some ⟨b2, 0, none⟩) 1 1 encN [a1] := Sl2.one (H.own 0 rfl).sl (h_a1.ext R0)
  refine LW.go rfl rfl (OW.call Tc17 (evs_cast rfl (by first | rfl | (simp; done) | (simp; omega))) (law04_Long_ok (a0 := a0) (a1 := ([a1] : List (List Int))) (h_a0_worth.ext R0) hS23 hr1) ?_)
  rintro _ w3 ⟨rfl, E1⟩
  refine ⟨_, rfl, ?_⟩
  have hS23 := hS23.ext E1
  replace H := H.grow E1
  replace R0 := H.ext
  refine LW.nil (hK3 _ _ ?_)
  by_cases hp1 : r1 = true
  ·
    replace F := ite_y hp1 F
    have hq1 : r1 = true := hp1
    refine CW.condT rfl hq1 ?_
    refine CW.seq fun K4 hK4 => ?_
    obtain ⟨r2, hr2, F⟩ := bnd_some F
    refine CW.region ?_
    refine LW.go rfl rfl (OW.call Tc18 rfl (law04_sane_ok hr2) ?_)
    rintro _ w4 ⟨rfl, E2⟩
    refine ⟨_, rfl, ?_⟩
    have hS23 := hS23.ext E2
    replace H := H.grow E2
    replace R0 := H.ext
    refine LW.pure rfl rfl (RV.assign rfl) ?_
    refine LW.nil (hK4 _ _ ?_)
    refine CW.ret ?_
    obtain rfl := Option.some.inj F
    refine ⟨_, (ResOK.one rfl), ?_⟩
    refine ⟨(by first | rfl | simp), R0⟩
  ·
    replace F := ite_n hp1 F
    have hq1 : r1 = false := raw_f hp1
    refine CW.condF rfl hq1 ?_
    refine CW.skip (hK2 _ _ ?_)
    refine CW.seq fun K5 hK5 => ?_
    obtain ⟨r3, hr3, F⟩ := bnd_some F
    refine CW.region ?_
    refine LW.pure rfl rfl (RV.loadA [.slice A_a0_worth a0.worth.length c_a0_worth] Tk24 rfl (H.blk 1 rfl).cells rfl rfl) ?_
    refine LW.pure rfl rfl (RV.move rfl) ?_
    refine LW.go rfl rfl (OW.call Tc33 rfl (cut_CheckOrder_ok (a0 := a0) (a1 := a1) (h_a0_worth.ext R0) (h_a1.ext R0) hr3) ?_)
    rintro _ w5 ⟨A12_0, c12_0, rfl, E3⟩
    refine ⟨_, rfl, ?_⟩
    have hS23 := hS23.ext E3.ext
    replace H : Hp w w5 [.own A12_0 c12_0 3 1 (List.map encN r3.1), .own (some ⟨b2, 0, none⟩) ((([((A_a1, c_a1), a1)] : List ((Option Addr × Nat) × List Int))).length) 25 1 (List.map encH (([((A_a1, c_a1), a1)] : List ((Option Addr × Nat) × List Int)))), .blk b1 24 [.slice A_a0_worth a0.worth.length c_a0_worth]] := H.append E3
    replace R0 := H.ext
    refine LW.pure rfl rfl (RV.move rfl) ?_
    refine LW.pure rfl rfl (RV.extract rfl rfl) ?_
    refine LW.pure rfl rfl (RV.extract rfl rfl) ?_
    refine LW.pure rfl rfl (RV.extract rfl rfl) ?_
    refine LW.pure rfl rfl (RV.assign rfl) ?_
    refine LW.pure rfl rfl (RV.assign rfl) ?_
    refine LW.pure rfl rfl (RV.assign rfl) ?_
    refine LW.nil (hK5 _ _ ?_)
    refine CW.seq fun K6 hK6 => ?_
    obtain ⟨r4, hr4, F⟩ := bnd_some F
    refine CW.region ?_
    refine LW.pure rfl rfl (RV.loadA [.slice A_a0_worth a0.worth.length c_a0_worth] Tk24 rfl (H.blk 2 rfl).cells rfl rfl) ?_
    refine LW.pure rfl rfl (RV.move rfl) ?_
    refine LW.go rfl rfl (OW.call Tc34 rfl (ref04_CheckOrder_ok (a0 := a0) (a1 := a1) (h_a0_worth.ext R0) (h_a1.ext R0) hr4) ?_)
    rintro _ w6 ⟨A14_0, c14_0, rfl, E4⟩
    refine ⟨_, rfl, ?_⟩
    have hS23 := hS23.ext E4.ext
    replace H : Hp w w6 [.own A14_0 c14_0 3 1 (List.map encN r4.1), .own A12_0 c12_0 3 1 (List.map encN r3.1), .own (some ⟨b2, 0, none⟩) ((([((A_a1, c_a1), a1)] : List ((Option Addr × Nat) × List Int))).length) 25 1 (List.map encH (([((A_a1, c_a1), a1)] : List ((Option Addr × Nat) × List Int)))), .blk b1 24 [.slice A_a0_worth a0.worth.length c_a0_worth]] := H.append E4
    replace R0 := H.ext
    refine LW.pure rfl rfl (RV.move rfl) ?_
    refine LW.pure rfl rfl (RV.extract rfl rfl) ?_
    refine LW.pure rfl rfl (RV.extract rfl rfl) ?_
    refine LW.pure rfl rfl (RV.extract rfl rfl) ?_
    refine LW.pure rfl rfl (RV.assign rfl) ?_
    refine LW.pure rfl rfl (RV.assign rfl) ?_
    refine LW.pure rfl rfl (RV.assign rfl) ?_
    refine LW.nil (hK6 _ _ ?_)
    refine CW.seq fun K7 hK7 => ?_
    obtain ⟨r5, hr5, F⟩ := bnd_some F
    by_cases hp2 : r5 = true
    ·
      replace F := ite_y hp2 F
      have hq2 : r5 = true := hp2
      by_cases hp3 : r3.2.1 = r4.2.1
      ·
        replace F := ite_y hp3 F
        have hq3 := dec_t hp3
        by_cases hp4 : r3.2.2 = r4.2.2
        ·
          replace F := ite_y hp4 F
          have hq4 := dec_t hp4
          obtain ⟨r6, hr6, F⟩ := bnd_some F
          refine CW.region ?_
          refine LW.pure rfl rfl (RV.move rfl) ?_
          refine LW.pure rfl rfl (RV.move rfl) ?_
          refine LW.go rfl rfl (OW.call Tc21 rfl (ref04_SameInts_ok (a0 := r3.1) (a1 := r4.1) (H.own 1 rfl).sl (H.own 0 rfl).sl hr5) ?_)
          rintro _ w7 ⟨rfl, E5⟩
          refine ⟨_, rfl, ?_⟩
          have hS23 := hS23.ext E5
          replace H := H.grow E5
          replace R0 := H.ext
          refine LW.pure rfl rfl (RV.move rfl) ?_
          refine LW.pureYB rfl rfl rfl rfl hq2 (RV.move rfl) ?_
          refine LW.pureYB rfl rfl rfl rfl hq2 (RV.move rfl) ?_
          refine LW.pureYB rfl rfl rfl rfl hq2 (RV.eqi rfl rfl) ?_
          refine LW.pure rfl rfl (RV.pickTB rfl hq2 rfl) ?_
          refine LW.pure rfl rfl (RV.move rfl) ?_
          refine LW.pureYB rfl rfl rfl rfl hq3 (RV.move rfl) ?_
          refine LW.pureYB rfl rfl rfl rfl hq3 (RV.move rfl) ?_
          refine LW.pureYB rfl rfl rfl rfl hq3 (RV.eqi rfl rfl) ?_
          refine LW.pure rfl rfl (RV.pickTB rfl hq3 rfl) ?_
          refine LW.pure rfl rfl (RV.move rfl) ?_
          refine LW.yesB rfl rfl rfl rfl hq4 (OW.call Tc18 rfl (law04_sane_ok hr6) ?_)
          rintro _ w8 ⟨rfl, E6⟩
          refine ⟨_, rfl, ?_⟩
          have hS23 := hS23.ext E6
          replace H := H.grow E6
          replace R0 := H.ext
          refine LW.pure rfl rfl (RV.pickTB rfl hq4 rfl) ?_
          refine LW.pure rfl rfl (RV.assign rfl) ?_
          refine LW.nil (hK7 _ _ ?_)
          refine CW.ret ?_
          obtain rfl := Option.some.inj F
          refine ⟨_, (ResOK.one rfl), ?_⟩
          refine ⟨(by first | rfl | simp), R0⟩
        ·
          replace F := ite_n hp4 F
          have hq4 := dec_f hp4
          refine CW.region ?_
          refine LW.pure rfl rfl (RV.move rfl) ?_
          refine LW.pure rfl rfl (RV.move rfl) ?_
          refine LW.go rfl rfl (OW.call Tc21 rfl (ref04_SameInts_ok (a0 := r3.1) (a1 := r4.1) (H.own 1 rfl).sl (H.own 0 rfl).sl hr5) ?_)
          rintro _ w9 ⟨rfl, E7⟩
          refine ⟨_, rfl, ?_⟩
          have hS23 := hS23.ext E7
          replace H := H.grow E7
          replace R0 := H.ext
          refine LW.pure rfl rfl (RV.move rfl) ?_
          refine LW.pureYB rfl rfl rfl rfl hq2 (RV.move rfl) ?_
          refine LW.pureYB rfl rfl rfl rfl hq2 (RV.move rfl) ?_
          refine LW.pureYB rfl rfl rfl rfl hq2 (RV.eqi rfl rfl) ?_
          refine LW.pure rfl rfl (RV.pickTB rfl hq2 rfl) ?_
          refine LW.pure rfl rfl (RV.move rfl) ?_
          refine LW.pureYB rfl rfl rfl rfl hq3 (RV.move rfl) ?_
          refine LW.pureYB rfl rfl rfl rfl hq3 (RV.move rfl) ?_
          refine LW.pureYB rfl rfl rfl rfl hq3 (RV.eqi rfl rfl) ?_
          refine LW.pure rfl rfl (RV.pickTB rfl hq3 rfl) ?_
          refine LW.pure rfl rfl (RV.move rfl) ?_
          refine LW.noB rfl rfl rfl rfl (ne_beq (v := false) hq4 rfl) ?_
          refine LW.pure rfl rfl (RV.pickFB rfl hq4 rfl) ?_
          refine LW.pure rfl rfl (RV.assign rfl) ?_
          refine LW.nil (hK7 _ _ ?_)
          refine CW.ret ?_
          obtain rfl := Option.some.inj F
          refine ⟨_, (ResOK.one rfl), ?_⟩
          refine ⟨(by first | rfl | simp), R0⟩
      ·
        replace F := ite_n hp3 F
        have hq3 := dec_f hp3
        refine CW.region ?_
        refine LW.pure rfl rfl (RV.move rfl) ?_
        refine LW.pure rfl rfl (RV.move rfl) ?_
        refine LW.go rfl rfl (OW.call Tc21 rfl (ref04_SameInts_ok (a0 := r3.1) (a1 := r4.1) (H.own 1 rfl).sl (H.own 0 rfl).sl hr5) ?_)
        rintro _ w10 ⟨rfl, E8⟩
        refine ⟨_, rfl, ?_⟩
        have hS23 := hS23.ext E8
        replace H := H.grow E8
        replace R0 := H.ext
        refine LW.pure rfl rfl (RV.move rfl) ?_
        refine LW.pureYB rfl rfl rfl rfl hq2 (RV.move rfl) ?_
        refine LW.pureYB rfl rfl rfl rfl hq2 (RV.move rfl) ?_
        refine LW.pureYB rfl rfl rfl rfl hq2 (RV.eqi rfl rfl) ?_
        refine LW.pure rfl rfl (RV.pickTB rfl hq2 rfl) ?_
        refine LW.pure rfl rfl (RV.move rfl) ?_
        refine LW.noB rfl rfl rfl rfl (ne_beq (v := false) hq3 rfl) ?_
        refine LW.noB rfl rfl rfl rfl (ne_beq (v := false) hq3 rfl) ?_
        refine LW.noB rfl rfl rfl rfl (ne_beq (v := false) hq3 rfl) ?_
        refine LW.pure rfl rfl (RV.pickFB rfl hq3 rfl) ?_
        refine LW.pure rfl rfl (RV.move rfl) ?_
        refine LW.noB rfl rfl rfl rfl (ne_beq (v := false) rfl rfl) ?_
        refine LW.pure rfl rfl (RV.pickFB rfl rfl rfl) ?_
        refine LW.pure rfl rfl (RV.assign rfl) ?_
        refine LW.nil (hK7 _ _ ?_)
        refine CW.ret ?_
        obtain rfl := Option.some.inj F
        refine ⟨_, (ResOK.one rfl), ?_⟩
        refine ⟨(by first | rfl | simp), R0⟩
    ·
      replace F := ite_n hp2 F
      have hq2 : r5 = false := raw_f hp2
      refine CW.region ?_
      refine LW.pure rfl rfl (RV.move rfl) ?_
      refine LW.pure rfl rfl (RV.move rfl) ?_
      refine LW.go rfl rfl (OW.call Tc21 rfl (ref04_SameInts_ok (a0 := r3.1) (a1 := r4.1) (H.own 1 rfl).sl (H.own 0 rfl).sl hr5) ?_)
      rintro _ w11 ⟨rfl, E9⟩
      refine ⟨_, rfl, ?_⟩
      have hS23 := hS23.ext E9
      replace H := H.grow E9
      replace R0 := H.ext
      refine LW.pure rfl rfl (RV.move rfl) ?_
      refine LW.noB rfl rfl rfl rfl (ne_beq (v := false) hq2 rfl) ?_
      refine LW.noB rfl rfl rfl rfl (ne_beq (v := false) hq2 rfl) ?_
      refine LW.noB rfl rfl rfl rfl (ne_beq (v := false) hq2 rfl) ?_
      refine LW.pure rfl rfl (RV.pickFB rfl hq2 rfl) ?_
      refine LW.pure rfl rfl (RV.move rfl) ?_
      refine LW.noB rfl rfl rfl rfl (ne_beq (v := false) rfl rfl) ?_
      refine LW.noB rfl rfl rfl rfl (ne_beq (v := false) rfl rfl) ?_
      refine LW.noB rfl rfl rfl rfl (ne_beq (v := false) rfl rfl) ?_
      refine LW.pure rfl rfl (RV.pickFB rfl rfl rfl) ?_
      refine LW.pure rfl rfl (RV.move rfl) ?_
      refine LW.noB rfl rfl rfl rfl (ne_beq (v := false) rfl rfl) ?_
      refine LW.pure rfl rfl (RV.pickFB rfl rfl rfl) ?_
      refine LW.pure rfl rfl (RV.assign rfl) ?_
      refine LW.nil (hK7 _ _ ?_)
      refine CW.ret ?_
      obtain rfl := Option.some.inj F
      refine ⟨_, (ResOK.one rfl), ?_⟩
      refine ⟨(by first | rfl | simp), R0⟩

end Go.D4

set_option linter.unusedVariables false
namespace Go.D4
open Go.Tb




def slices_Equal_int_k1 : Option Bool :=
  some true
def slices_Equal_int_B1 (a0 : List Int) (a1 : List Int) (rec1 : Int → Option Bool) (t13_1 : Int) : Option Bool :=
  if t13_1 < ((a0.length : Int)) then
    ix a0 t13_1 fun x1 =>
    ix a1 t13_1 fun x2 =>
    if x1 = x2 then
      gd (InR (t13_1 + 1)) <|
      rec1 ((t13_1 + 1))
    else
      some false
  else
    slices_Equal_int_k1
def slices_Equal_int_L1 (a0 : List Int) (a1 : List Int) : Nat → Int → Option Bool
  | 0, _ => none
  | n_ + 1, t13_1 => slices_Equal_int_B1 a0 a1 (slices_Equal_int_L1 a0 a1 n_) t13_1
theorem slices_Equal_int_L1_s {a0 : List Int} {a1 : List Int} {m_ : Nat} {t13_1 : Int} {res : Bool} (h : slices_Equal_int_L1 a0 a1 m_ t13_1 = some res) : ∃ k, m_ = k + 1 ∧ slices_Equal_int_B1 a0 a1 (slices_Equal_int_L1 a0 a1 k) t13_1 = some res := by
  cases m_ with
  | zero => cases h
  | succ k => exact ⟨k, rfl, h⟩
def slices_Equal_int (a0 : List Int) (a1 : List Int) : Option Bool :=
  if ((a0.length : Int)) = ((a1.length : Int)) then
    slices_Equal_int_L1 a0 a1 FU (((0 : Int)))
  else
    some false
def cut_Order_k1 (l1 : List Int) : Option ((List Int) × Int) :=
  some (l1, (0 : Int))
def cut_Order_k2 (l2 : List Int) (l3 : List Int) (rec1 : (List Int) → (List Int) → Option ((List Int) × Int)) (t25_1 : Int) (rec2 : Int → Option ((List Int) × Int)) (t42_1 : Bool) : Option ((List Int) × Int) :=
  if t42_1 = true then
    ix l3 t25_1 fun x1 =>
    gd (InR (x1 + 1)) <|
    ix l3 t25_1 fun x2 =>
    gd (l2.length + (([t25_1] : List Int)).length ≤ 1000000) <|
    rec1 (((l2 ++ ([t25_1] : List Int)))) (((l3.set (Int.toNat t25_1) (x1 + 1))))
  else
    gd (InR (t25_1 + 1)) <|
    rec2 ((t25_1 + 1))
def cut_Order_B1 (a0 : Bog) (a1 : List Int) (l2 : List Int) (l3 : List Int) (rec1 : (List Int) → (List Int) → Option ((List Int) × Int)) (rec2 : Int → Option ((List Int) × Int)) (t25_1 : Int) : Option ((List Int) × Int) :=
  if t25_1 < ((l3.length : Int)) then
    ix l3 t25_1 fun x3 =>
    ix a1 t25_1 fun x4 =>
    if x3 < x4 then
      bnd (cut_open a0 l3 t25_1) fun r1 =>
      cut_Order_k2 l2 l3 rec1 t25_1 rec2 r1
    else
      cut_Order_k2 l2 l3 rec1 t25_1 rec2 false
  else
    rec1 l2 l3
def cut_Order_L1 (a0 : Bog) (a1 : List Int) (l2 : List Int) (l3 : List Int) (rec1 : (List Int) → (List Int) → Option ((List Int) × Int)) : Nat → Int → Option ((List Int) × Int)
  | 0, _ => none
  | n_ + 1, t25_1 => cut_Order_B1 a0 a1 l2 l3 rec1 (cut_Order_L1 a0 a1 l2 l3 rec1 n_) t25_1
theorem cut_Order_L1_s {a0 : Bog} {a1 : List Int} {l2 : List Int} {l3 : List Int} {rec1 : (List Int) → (List Int) → Option ((List Int) × Int)} {m_ : Nat} {t25_1 : Int} {res : (List Int) × Int} (h : cut_Order_L1 a0 a1 l2 l3 rec1 m_ t25_1 = some res) : ∃ k, m_ = k + 1 ∧ cut_Order_B1 a0 a1 l2 l3 rec1 (cut_Order_L1 a0 a1 l2 l3 rec1 k) t25_1 = some res := by
  cases m_ with
  | zero => cases h
  | succ k => exact ⟨k, rfl, h⟩
def cut_Order_B2 (a0 : Bog) (a1 : List Int) (rec1 : (List Int) → (List Int) → Option ((List Int) × Int)) (l2 : List Int) (l3 : List Int) : Option ((List Int) × Int) :=
  bnd (slices_Equal_int l3 a1) fun r2 =>
  if r2 = true then
    cut_Order_k1 l2
  else
    cut_Order_L1 a0 a1 l2 l3 rec1 FU (((0 : Int)))
def cut_Order_L2 (a0 : Bog) (a1 : List Int) : Nat → (List Int) → (List Int) → Option ((List Int) × Int)
  | 0, _, _ => none
  | n_ + 1, l2, l3 => cut_Order_B2 a0 a1 (cut_Order_L2 a0 a1 n_) l2 l3
theorem cut_Order_L2_s {a0 : Bog} {a1 : List Int} {m_ : Nat} {l2 : List Int} {l3 : List Int} {res : (List Int) × Int} (h : cut_Order_L2 a0 a1 m_ l2 l3 = some res) : ∃ k, m_ = k + 1 ∧ cut_Order_B2 a0 a1 (cut_Order_L2 a0 a1 k) l2 l3 = some res := by
  cases m_ with
  | zero => cases h
  | succ k => exact ⟨k, rfl, h⟩
def cut_Order (a0 : Bog) (a1 : List Int) : Option ((List Int) × Int) :=
  bnd (cut_CheckHollow a0 a1) fun r3 =>
  if r3 = 0 then
    gd (0 ≤ (a1.length : Int) ∧ ((a1.length : Int)) ≤ 1000000) <|
    cut_Order_L2 a0 a1 FU ((([] : List Int))) (((List.replicate (Int.toNat ((a1.length : Int))) (0 : Int))))
  else
    some (([] : List Int), r3)
def ref04_Order_k1 (l1 : List Int) : Option ((List Int) × Int) :=
  some (l1, (0 : Int))
def ref04_Order_k2 (l2 : List Int) (l3 : List Int) (rec1 : (List Int) → (List Int) → Option ((List Int) × Int)) (r1 : (List Int)) (t10_1 : Int) : Option ((List Int) × Int) :=
  ix r1 t10_1 fun x1 =>
  ix l2 x1 fun x2 =>
  gd (InR (x2 + 1)) <|
  ix l2 x1 fun x3 =>
  ix r1 t10_1 fun x4 =>
  gd (l3.length + (([x4] : List Int)).length ≤ 1000000) <|
  rec1 (((l2.set (Int.toNat x1) (x2 + 1)))) (((l3 ++ ([x4] : List Int))))
def ref04_Order_B1 (a1 : List Int) (l2 : List Int) (l3 : List Int) (rec1 : (List Int) → (List Int) → Option ((List Int) × Int)) (r1 : (List Int)) (rec2 : Int → Option ((List Int) × Int)) (t10_2 : Int) : Option ((List Int) × Int) :=
  ix r1 t10_2 fun x5 =>
  ix l2 x5 fun x6 =>
  ix r1 t10_2 fun x7 =>
  ix a1 x7 fun x8 =>
  if x6 = x8 then
    gd (InR (t10_2 + 1)) <|
    rec2 ((t10_2 + 1))
  else
    ref04_Order_k2 l2 l3 rec1 r1 t10_2
def ref04_Order_L1 (a1 : List Int) (l2 : List Int) (l3 : List Int) (rec1 : (List Int) → (List Int) → Option ((List Int) × Int)) (r1 : (List Int)) : Nat → Int → Option ((List Int) × Int)
  | 0, _ => none
  | n_ + 1, t10_2 => ref04_Order_B1 a1 l2 l3 rec1 r1 (ref04_Order_L1 a1 l2 l3 rec1 r1 n_) t10_2
theorem ref04_Order_L1_s {a1 : List Int} {l2 : List Int} {l3 : List Int} {rec1 : (List Int) → (List Int) → Option ((List Int) × Int)} {r1 : (List Int)} {m_ : Nat} {t10_2 : Int} {res : (List Int) × Int} (h : ref04_Order_L1 a1 l2 l3 rec1 r1 m_ t10_2 = some res) : ∃ k, m_ = k + 1 ∧ ref04_Order_B1 a1 l2 l3 rec1 r1 (ref04_Order_L1 a1 l2 l3 rec1 r1 k) t10_2 = some res := by
  cases m_ with
  | zero => cases h
  | succ k => exact ⟨k, rfl, h⟩
def ref04_Order_B2 (a0 : Bog) (a1 : List Int) (rec1 : (List Int) → (List Int) → Option ((List Int) × Int)) (l2 : List Int) (l3 : List Int) : Option ((List Int) × Int) :=
  bnd (ref04_SameInts l2 a1) fun r2 =>
  if r2 = true then
    ref04_Order_k1 l3
  else
    bnd (ref04_open a0 l2) fun r1 =>
    ref04_Order_L1 a1 l2 l3 rec1 r1 FU (((0 : Int)))
def ref04_Order_L2 (a0 : Bog) (a1 : List Int) : Nat → (List Int) → (List Int) → Option ((List Int) × Int)
  | 0, _, _ => none
  | n_ + 1, l2, l3 => ref04_Order_B2 a0 a1 (ref04_Order_L2 a0 a1 n_) l2 l3
theorem ref04_Order_L2_s {a0 : Bog} {a1 : List Int} {m_ : Nat} {l2 : List Int} {l3 : List Int} {res : (List Int) × Int} (h : ref04_Order_L2 a0 a1 m_ l2 l3 = some res) : ∃ k, m_ = k + 1 ∧ ref04_Order_B2 a0 a1 (ref04_Order_L2 a0 a1 k) l2 l3 = some res := by
  cases m_ with
  | zero => cases h
  | succ k => exact ⟨k, rfl, h⟩
def ref04_Order (a0 : Bog) (a1 : List Int) : Option ((List Int) × Int) :=
  bnd (ref04_CheckHollow a0 a1) fun r3 =>
  if r3 = 0 then
    gd (0 ≤ (a1.length : Int) ∧ ((a1.length : Int)) ≤ 1000000) <|
    ref04_Order_L2 a0 a1 FU (((List.replicate (Int.toNat ((a1.length : Int))) (0 : Int)))) ((([] : List Int)))
  else
    some (([] : List Int), r3)
def law04_CutPlans_k1 (a0 : Bog) (a1 : List Int) (r1 : (List Int) × Int) (t37_1 : Bool) : Option Bool :=
  if t37_1 = true then
    some false
  else
    if r1.2 = 0 then
      bnd (cut_CheckOrder a0 r1.1) fun r2 =>
      if r2.2.2 = 0 then
        if r2.2.1 = ((r1.1.length : Int)) then
          bnd (ref04_SameInts r2.1 a1) fun r3 =>
          if r3 = true then
            bnd (law04_sane) fun r4 =>
            some r4
          else
            some false
        else
          some false
      else
        some false
    else
      bnd (law04_sane) fun r5 =>
      some r5
def law04_CutPlans (a0 : Bog) (a1 : List Int) : Option Bool :=
  bnd (law04_Long a0 (([a1] : List (List Int)))) fun r6 =>
  if r6 = true then
    bnd (law04_sane) fun r7 =>
    some r7
  else
    bnd (cut_Order a0 a1) fun r1 =>
    bnd (ref04_Order a0 a1) fun r8 =>
    bnd (ref04_SameInts r1.1 r8.1) fun r9 =>
    if r9 = true then
      law04_CutPlans_k1 a0 a1 r1 ((!(decide (r1.2 = r8.2))))
    else
      law04_CutPlans_k1 a0 a1 r1 true
end Go.D4

set_option linter.unusedVariables false
set_option linter.unusedSimpArgs false
namespace Go.D4
open Go.Tb Go.Proofs Go.RowKit

theorem Tc57 : callable Try.prog 57 = true := by kernel_rfl
theorem Tc58 : callable Try.prog 58 = true := by kernel_rfl
theorem Tc94 : callable Try.prog 94 = true := by kernel_rfl

set_option maxRecDepth 20000 in
set_option maxHeartbeats 1000000 in
theorem slices_Equal_int_ok {a0 : List Int} {a1 : List Int} {A_a0 : Option Addr} {c_a0 : Nat} {A_a1 : Option Addr} {c_a1 : Nat} {w : World} {res : Bool} (h_a0 : Sl w A_a0 c_a0 1 (a0.map encN)) (h_a1 : Sl w A_a1 c_a1 1 (a1.map encN)) (F : slices_Equal_int a0 a1 = some res) : Calls Try.prog 94 #[.slice A_a0 a0.length c_a0, .slice A_a1 a1.length c_a1] w (Rt w (.bool res)) := by
  refine calls_of_cw (args := [.slice A_a0 a0.length c_a0, .slice A_a1 a1.length c_a1]) Try.func94 rfl rfl rfl rfl ?_
  have H := Hp.start w
  have R0 := H.ext
  unfold slices_Equal_int at F
  refine CW.seq fun K1 hK1 => ?_
  refine CW.region ?_
  refine LW.pure rfl rfl (RV.assign rfl) ?_
  refine LW.nil (hK1 _ _ ?_)
  refine CW.seq fun K2 hK2 => ?_
  refine CW.seq fun K3 hK3 => ?_
  refine CW.region ?_
  refine LW.pure rfl rfl (RV.move rfl) ?_
  refine LW.pure rfl rfl (RV.len Ts25 rfl) ?_
  refine LW.pure rfl rfl (RV.move rfl) ?_
  refine LW.pure rfl rfl (RV.len Ts25 rfl) ?_
  refine LW.pure rfl rfl (RV.nei rfl rfl) ?_
  refine LW.nil (hK3 _ _ ?_)
  by_cases hp1 : ((a0.length : Int)) = ((a1.length : Int))
  ·
    replace F := ite_y hp1 F
    have hq1 := dec_t hp1
    refine CW.condF rfl (not_f hq1) ?_
    refine CW.skip (hK2 _ _ ?_)
    refine CW.seqJ (fun ρ wl1 => (slices_Equal_int_k1 = some res ∧ ρ = [(4, .bool false)] ∧ Hp w wl1 [])) ?_ ?_
    ·
      rintro _ wl1 ⟨F, rfl, H⟩
      have R0 := H.ext
      unfold slices_Equal_int_k1 at F
      refine CW.seq fun K4 hK4 => ?_
      refine CW.region ?_
      refine LW.pure rfl rfl (RV.assign rfl) ?_
      refine LW.nil (hK4 _ _ ?_)
      refine CW.ret ?_
      obtain rfl := Option.some.inj F
      refine ⟨_, (ResOK.one rfl), ?_⟩
      refine ⟨(by first | rfl | simp), R0⟩
    ·
      intro K5 hK5 jK68
      refine CW.seq fun K6 hK6 => ?_
      refine CW.region ?_
      refine LW.pure rfl rfl (RV.move rfl) ?_
      refine LW.pure rfl rfl (RV.len Ts25 rfl) ?_
      refine LW.pure rfl rfl (RV.move rfl) ?_
      refine LW.nil (hK6 _ _ ?_)
      refine CW.block ?_
      refine CW.loop (fun meas ρ wl2 => ∃ (t13_1 : Int), slices_Equal_int_L1 a0 a1 meas t13_1 = some res ∧ ρ = [(0, .slice A_a0 a0.length c_a0), (1, .slice A_a1 a1.length c_a1), (4, .bool false), (12, .int .i64 ((a0.length : Int))), (13, .int .i64 t13_1)] ∧ Hp w wl2 []) FU ⟨_, ?_, ((0 : Int)), F, rfl, H⟩ ?_
      · exact ⟨rfl, rfl, rfl, rfl, rfl, trivial⟩
      rintro mk1 _ wl2 ⟨t13_1, F, rfl, H⟩
      have R0 := H.ext
      replace F := slices_Equal_int_L1_s F
      obtain ⟨mk1, rfl, F⟩ := F
      generalize hrec1 : slices_Equal_int_L1 a0 a1 mk1 = rec1 at F
      unfold slices_Equal_int_B1 at F
      refine CW.seq fun K7 hK7 => ?_
      refine CW.region ?_
      refine LW.pure rfl rfl (RV.lss rfl rfl) ?_
      refine LW.nil (hK7 _ _ ?_)
      refine CW.seq fun K8 hK8 => ?_
      by_cases hp2 : t13_1 < ((a0.length : Int))
      ·
        replace F := ite_y hp2 F
        have hq2 := dec_t hp2
        refine CW.condT rfl hq2 ?_
        refine CW.skip (hK8 _ _ ?_)
        refine CW.seq fun K9 hK9 => ?_
        refine CW.block ?_
        refine CW.seq fun K10 hK10 => ?_
        refine CW.region ?_
        refine LW.pure rfl rfl (RV.move rfl) ?_
        refine LW.pure rfl rfl (RV.assign rfl) ?_
        refine LW.nil (hK10 _ _ ?_)
        refine CW.seq fun K11 hK11 => ?_
        obtain ⟨x1, hbx1, hx1, F⟩ := ix_some F
        obtain ⟨x2, hbx2, hx2, F⟩ := ix_some F
        refine CW.draw [] (fun _ => True) (.cons 0 1 (.cons 1 1 (.cons 2 1 (.cons 3 1 (.cons 4 1 (.cons 5 1 (.cons 6 1 (.cons 7 1 (.cons 8 1 .nil))))))))) mixed (by kernel_rfl) fun w1 E1 => ?_
        replace H := H.grow E1
        replace R0 := H.ext
        refine DW.fix rfl rfl rfl (fun _ EQ => RV.move rfl) ?_
        refine DW.fix rfl rfl rfl (fun _ EQ => RV.move rfl) ?_
        refine DW.fix rfl rfl rfl (fun _ EQ => RV.indexAddr Ts25 rfl rfl hbx1 (h_a0.addr_ hx1)) ?_
        refine DW.fix rfl rfl rfl (fun _ EQ => RV.load1 Tk3 rfl ((h_a0.at_ hx1).ext (R0.trans EQ)) rfl) ?_
        refine DW.fix rfl rfl rfl (fun _ EQ => RV.move rfl) ?_
        refine DW.fix rfl rfl rfl (fun _ EQ => RV.move rfl) ?_
        refine DW.fix rfl rfl rfl (fun _ EQ => RV.indexAddr Ts25 rfl rfl hbx2 (h_a1.addr_ hx2)) ?_
        refine DW.fix rfl rfl rfl (fun _ EQ => RV.load1 Tk3 rfl ((h_a1.at_ hx2).ext (R0.trans EQ)) rfl) ?_
        refine DW.fix rfl rfl rfl (fun _ EQ => RV.nei rfl rfl) ?_
        refine DW.nil (hK11 _ _ ?_)
        by_cases hp3 : x1 = x2
        ·
          replace F := ite_y hp3 F
          have hq3 := dec_t hp3
          refine CW.condF rfl (not_f hq3) ?_
          refine CW.skip (hK9 _ _ ?_)
          obtain ⟨hg1, F⟩ := gd_some F
          refine CW.region ?_
          refine LW.pure rfl rfl (RV.add rfl rfl hg1) ?_
          refine LW.pure rfl rfl (RV.move rfl) ?_
          refine LW.nil ?_
          subst hrec1
          refine ⟨mk1, Nat.lt_succ_self _, _, ?_, (t13_1 + 1), F, rfl, H⟩
          exact ⟨rfl, rfl, rfl, rfl, rfl, trivial⟩
        ·
          replace F := ite_n hp3 F
          have hq3 := dec_f hp3
          refine CW.condT rfl (not_t hq3) ?_
          refine CW.seq fun K12 hK12 => ?_
          refine CW.region ?_
          refine LW.pure rfl rfl (RV.assign rfl) ?_
          refine LW.nil (hK12 _ _ ?_)
          refine CW.ret ?_
          obtain rfl := Option.some.inj F
          refine ⟨_, (ResOK.one rfl), ?_⟩
          refine ⟨(by first | rfl | simp), R0⟩
      ·
        replace F := ite_n hp2 F
        have hq2 := dec_f hp2
        refine CW.condF rfl hq2 ?_
        refine CW.exit (jK68 _ _ ⟨_, ?_, ⟨F, rfl, H⟩⟩)
        exact ⟨rfl, trivial⟩
  ·
    replace F := ite_n hp1 F
    have hq1 := dec_f hp1
    refine CW.condT rfl (not_t hq1) ?_
    refine CW.seq fun K13 hK13 => ?_
    refine CW.region ?_
    refine LW.pure rfl rfl (RV.assign rfl) ?_
    refine LW.nil (hK13 _ _ ?_)
    refine CW.ret ?_
    obtain rfl := Option.some.inj F
    refine ⟨_, (ResOK.one rfl), ?_⟩
    refine ⟨(by first | rfl | simp), R0⟩

set_option maxRecDepth 20000 in
set_option maxHeartbeats 1000000 in
theorem cut_Order_ok {a0 : Bog} {a1 : List Int} {A_a0_worth : Option Addr} {c_a0_worth : Nat} {A_a1 : Option Addr} {c_a1 : Nat} {w : World} {res : (List Int) × Int} (h_a0_worth : Sl2 w A_a0_worth c_a0_worth 1 encN a0.worth) (h_a1 : Sl w A_a1 c_a1 1 (a1.map encN)) (F : cut_Order a0 a1 = some res) : Calls Try.prog 57 #[.agg #[.slice A_a0_worth a0.worth.length c_a0_worth], .slice A_a1 a1.length c_a1] w (fun e w' => ∃ (A1 : Option Addr) (c1 : Nat), e = .returned (.tuple #[.slice A1 res.1.length c1, .int .i64 res.2]) ∧ Hp w w' [.own A1 c1 3 1 (List.map encN res.1)]) := by
  refine calls_of_cw (args := [.agg #[.slice A_a0_worth a0.worth.length c_a0_worth], .slice A_a1 a1.length c_a1]) Try.func57 rfl rfl rfl rfl ?_
  have H := Hp.start w
  have R0 := H.ext
  unfold cut_Order at F
  refine CW.seq fun K1 hK1 => ?_
  refine CW.region ?_
  refine LW.go rfl rfl (OW.box rfl fun b1 w1 N1 => ?_)
  replace H := H.new N1 N1.blk
  replace R0 := H.ext
  refine LW.pure rfl rfl (RV.assign rfl) ?_
  refine LW.pure rfl rfl (RV.assign rfl) ?_
  refine LW.nil (hK1 _ _ ?_)
  refine CW.seq fun K2 hK2 => ?_
  refine CW.seq fun K3 hK3 => ?_
  obtain ⟨r3, hr3, F⟩ := bnd_some F
  refine CW.region ?_
  refine LW.pure rfl rfl (RV.loadA [.slice A_a0_worth a0.worth.length c_a0_worth] Tk24 rfl (H.blk 0 rfl).cells rfl rfl) ?_
  refine LW.pure rfl rfl (RV.move rfl) ?_
  refine LW.go rfl rfl (OW.call Tc22 rfl (cut_CheckHollow_ok (a0 := a0) (a1 := a1) (h_a0_worth.ext R0) (h_a1.ext R0) hr3) ?_)
  rintro _ w2 ⟨rfl, E1⟩
  refine ⟨_, rfl, ?_⟩
  replace H := H.grow E1
  replace R0 := H.ext
  refine LW.pure rfl rfl (RV.assign rfl) ?_
  refine LW.nil (hK3 _ _ ?_)
  refine CW.seq fun K4 hK4 => ?_
  refine CW.region ?_
  refine LW.pure rfl rfl (RV.move rfl) ?_
  refine LW.pure rfl rfl (RV.nei rfl rfl) ?_
  refine LW.nil (hK4 _ _ ?_)
  by_cases hp1 : r3 = 0
  ·
    replace F := ite_y hp1 F
    have hq1 := dec_t hp1
    refine CW.condF rfl (not_f hq1) ?_
    refine CW.skip (hK2 _ _ ?_)
    refine CW.seq fun K5 hK5 => ?_
    refine CW.region ?_
    refine LW.pure rfl rfl (RV.assign rfl) ?_
    refine LW.nil (hK5 _ _ ?_)
    refine CW.seq fun K6 hK6 => ?_
    obtain ⟨hg1, F⟩ := gd_some F
    refine CW.region ?_
    refine LW.pure rfl rfl (RV.move rfl) ?_
    refine LW.pure rfl rfl (RV.len Ts25 rfl) ?_
    refine LW.go rfl rfl (OW.makeR (enc := encN) (0 : Int) Ts25 rfl rfl rfl rfl rfl hg1 (by decide) fun b2 w3 N2 => ?_)
    replace H := H.made' (k := 1) (t := 3) (enc := encN) (l := (List.replicate (Int.toNat ((a1.length : Int))) (0 : Int))) N2 N2.blk (fun _ => rfl) rfl (by first | decide | omega | (simp; done) | (simp; omega))
    replace R0 := H.ext
    refine LW.pure rfl rfl (RV.assign rfl) ?_
    refine LW.nil (hK6 _ _ ?_)
    refine CW.seqJ (fun ρ wl1 => (∃ (l1 : List Int) (Al1 : Option Addr) (cl1 : Nat), cut_Order_k1 l1 = some res ∧ ρ = [(4, .slice none 0 0), (5, .int .i64 0), (7, .slice Al1 l1.length cl1)] ∧ Hp w wl1 [.own Al1 cl1 3 1 (List.map encN l1)])) ?_ ?_
    ·
      rintro _ wl1 ⟨l1, Al1, cl1, F, rfl, H⟩
      have R0 := H.ext
      unfold cut_Order_k1 at F
      refine CW.seq fun K7 hK7 => ?_
      refine CW.region ?_
      refine LW.pure rfl rfl (RV.move rfl) ?_
      refine LW.pure rfl rfl (RV.assign rfl) ?_
      refine LW.pure rfl rfl (RV.assign rfl) ?_
      refine LW.nil (hK7 _ _ ?_)
      refine CW.ret ?_
      obtain rfl := Option.some.inj F
      refine ⟨_, (ResOK.two rfl rfl), ?_⟩
      exact ⟨Al1, cl1, (by first | rfl | (simp; done) | (simp; omega)), H⟩
    ·
      intro K8 hK8 jK233
      refine CW.block ?_
      replace H := H.nilOwn 3 1
      replace R0 := H.ext
      refine CW.loop (fun meas ρ wl2 => ∃ (l2 : List Int) (l3 : List Int) (Al2 : Option Addr) (cl2 : Nat), cut_Order_L2 a0 a1 meas l2 l3 = some res ∧ ρ = [(1, .slice A_a1 a1.length c_a1), (2, .pointer (some (⟨b1, 0, none⟩))), (4, .slice none 0 0), (5, .int .i64 0), (7, .slice Al2 l2.length cl2), (8, .slice (some ⟨b2, 0, none⟩) l3.length (((List.replicate (Int.toNat ((a1.length : Int))) (0 : Int))).length))] ∧ Hp w wl2 [.own Al2 cl2 3 1 (List.map encN l2), .own (some ⟨b2, 0, none⟩) (((List.replicate (Int.toNat ((a1.length : Int))) (0 : Int))).length) 3 1 (List.map encN l3), .blk b1 24 [.slice A_a0_worth a0.worth.length c_a0_worth]]) FU ⟨_, ?_, (([] : List Int)), ((List.replicate (Int.toNat ((a1.length : Int))) (0 : Int))), none, 0, F, rfl, H⟩ ?_
      · exact ⟨rfl, rfl, rfl, rfl, (look_slice rfl (by first | rfl | (simp; done) | (simp; omega))), (look_slice rfl (by first | rfl | (simp; done) | (simp; omega))), trivial⟩
      rintro mk1 _ wl2 ⟨l2, l3, Al2, cl2, F, rfl, H⟩
      have R0 := H.ext
      replace F := cut_Order_L2_s F
      obtain ⟨mk1, rfl, F⟩ := F
      generalize hrec1 : cut_Order_L2 a0 a1 mk1 = rec1 at F
      unfold cut_Order_B2 at F
      refine CW.seq fun K9 hK9 => ?_
      refine CW.seq fun K10 hK10 => ?_
      obtain ⟨r2, hr2, F⟩ := bnd_some F
      refine CW.region ?_
      refine LW.pure rfl rfl (RV.move rfl) ?_
      refine LW.pure rfl rfl (RV.move rfl) ?_
      refine LW.go rfl rfl (OW.call Tc94 rfl (slices_Equal_int_ok (a0 := l3) (a1 := a1) (H.own 1 rfl).sl (h_a1.ext R0) hr2) ?_)
      rintro _ w4 ⟨rfl, E2⟩
      refine ⟨_, rfl, ?_⟩
      replace H := H.grow E2
      replace R0 := H.ext
      refine LW.pure rfl rfl (RV.not rfl) ?_
      refine LW.nil (hK10 _ _ ?_)
      by_cases hp2 : r2 = true
      ·
        replace F := ite_y hp2 F
        have hq2 : r2 = true := hp2
        refine CW.condF rfl (not_f hq2) ?_
        replace H := H.pick (L' := [.own Al2 cl2 3 1 (List.map encN l2)]) [0] (by decide) rfl
        replace R0 := H.ext
        refine CW.exit (jK233 _ _ ⟨_, ?_, ⟨l2, Al2, cl2, F, rfl, H⟩⟩)
        exact ⟨rfl, rfl, (look_slice rfl (by first | rfl | (simp; done) | (simp; omega))), trivial⟩
      ·
        replace F := ite_n hp2 F
        have hq2 : r2 = false := raw_f hp2
        refine CW.condT rfl (not_t hq2) ?_
        refine CW.skip (hK9 _ _ ?_)
        refine CW.block ?_
        refine CW.seq fun K11 hK11 => ?_
        refine CW.region ?_
        refine LW.pure rfl rfl (RV.move rfl) ?_
        refine LW.pure rfl rfl (RV.len Ts25 rfl) ?_
        refine LW.pure rfl rfl (RV.move rfl) ?_
        refine LW.nil (hK11 _ _ ?_)
        refine CW.block ?_
        refine CW.loop (fun meas ρ wl3 => ∃ (t25_1 : Int), cut_Order_L1 a0 a1 l2 l3 rec1 meas t25_1 = some res ∧ ρ = [(1, .slice A_a1 a1.length c_a1), (2, .pointer (some (⟨b1, 0, none⟩))), (4, .slice none 0 0), (5, .int .i64 0), (7, .slice Al2 l2.length cl2), (8, .slice (some ⟨b2, 0, none⟩) l3.length (((List.replicate (Int.toNat ((a1.length : Int))) (0 : Int))).length)), (24, .int .i64 ((l3.length : Int))), (25, .int .i64 t25_1)] ∧ Hp w wl3 [.own Al2 cl2 3 1 (List.map encN l2), .own (some ⟨b2, 0, none⟩) (((List.replicate (Int.toNat ((a1.length : Int))) (0 : Int))).length) 3 1 (List.map encN l3), .blk b1 24 [.slice A_a0_worth a0.worth.length c_a0_worth]]) FU ⟨_, ?_, ((0 : Int)), F, rfl, H⟩ ?_
        · exact ⟨rfl, rfl, rfl, rfl, (look_slice rfl (by first | rfl | (simp; done) | (simp; omega))), (look_slice rfl (by first | rfl | (simp; done) | (simp; omega))), rfl, rfl, trivial⟩
        rintro mk2 _ wl3 ⟨t25_1, F, rfl, H⟩
        have R0 := H.ext
        replace F := cut_Order_L1_s F
        obtain ⟨mk2, rfl, F⟩ := F
        generalize hrec2 : cut_Order_L1 a0 a1 l2 l3 rec1 mk2 = rec2 at F
        unfold cut_Order_B1 at F
        refine CW.seq fun K12 hK12 => ?_
        refine CW.region ?_
        refine LW.pure rfl rfl (RV.lss rfl rfl) ?_
        refine LW.nil (hK12 _ _ ?_)
        refine CW.seq fun K13 hK13 => ?_
        by_cases hp3 : t25_1 < ((l3.length : Int))
        ·
          replace F := ite_y hp3 F
          have hq3 := dec_t hp3
          refine CW.condT rfl hq3 ?_
          refine CW.skip (hK13 _ _ ?_)
          refine CW.seq fun K14 hK14 => ?_
          refine CW.block ?_
          refine CW.seq fun K15 hK15 => ?_
          refine CW.region ?_
          refine LW.pure rfl rfl (RV.move rfl) ?_
          refine LW.pure rfl rfl (RV.assign rfl) ?_
          refine LW.nil (hK15 _ _ ?_)
          refine CW.seqJ (fun ρ wl4 => (∃ (t42_1 : Bool), cut_Order_k2 l2 l3 rec1 t25_1 rec2 t42_1 = some res ∧ ρ = [(1, .slice A_a1 a1.length c_a1), (2, .pointer (some (⟨b1, 0, none⟩))), (4, .slice none 0 0), (5, .int .i64 0), (7, .slice Al2 l2.length cl2), (8, .slice (some ⟨b2, 0, none⟩) l3.length (((List.replicate (Int.toNat ((a1.length : Int))) (0 : Int))).length)), (9, .int .i64 t25_1), (24, .int .i64 ((l3.length : Int))), (25, .int .i64 t25_1), (42, .bool t42_1)] ∧ Hp w wl4 [.own Al2 cl2 3 1 (List.map encN l2), .own (some ⟨b2, 0, none⟩) (((List.replicate (Int.toNat ((a1.length : Int))) (0 : Int))).length) 3 1 (List.map encN l3), .blk b1 24 [.slice A_a0_worth a0.worth.length c_a0_worth]])) ?_ ?_
          ·
            rintro _ wl4 ⟨t42_1, F, rfl, H⟩
            have R0 := H.ext
            unfold cut_Order_k2 at F
            by_cases hp4 : t42_1 = true
            ·
              replace F := ite_y hp4 F
              have hq4 : t42_1 = true := hp4
              refine CW.condT rfl hq4 ?_
              refine CW.seq fun K16 hK16 => ?_
              obtain ⟨x1, hbx1, hx1, F⟩ := ix_some F
              obtain ⟨hg2, F⟩ := gd_some F
              obtain ⟨x2, hbx2, hx2, F⟩ := ix_some F
              refine CW.region ?_
              refine LW.pure rfl rfl (RV.move rfl) ?_
              refine LW.pure rfl rfl (RV.move rfl) ?_
              refine LW.pure rfl rfl (RV.indexAddr Ts25 rfl rfl hbx1 ⟨_, rfl⟩) ?_
              refine LW.pure rfl rfl (RV.load1 Tk3 rfl ((H.own 1 rfl).sl.at_ hx1) rfl) ?_
              refine LW.pure rfl rfl (RV.add rfl rfl hg2) ?_
              refine LW.pure rfl rfl (RV.indexAddr Ts25 rfl rfl hbx2 ⟨_, rfl⟩) ?_
              refine LW.go rfl rfl (OW.storeO (enc := encN) (vs := [.int .i64 (x1 + 1)]) 0 (x1 + 1) Tk3 rfl rfl (H.own 1 rfl) (fun _ => rfl) rfl hx2 rfl rfl (by decide) rfl rfl fun w5 M1 O1 => ?_)
              replace H : Hp w w5 [.own Al2 cl2 3 1 (List.map encN l2), .own (some ⟨b2, 0, none⟩) (((List.replicate (Int.toNat ((a1.length : Int))) (0 : Int))).length) 3 1 (List.map encN ((l3.set (Int.toNat t25_1) (x1 + 1)))), .blk b1 24 [.slice A_a0_worth a0.worth.length c_a0_worth]] := H.mod 1 rfl M1 O1 (.inl rfl)
              replace R0 := H.ext
              refine LW.nil (hK16 _ _ ?_)
              refine CW.seq fun K17 hK17 => ?_
              obtain ⟨hg3, F⟩ := gd_some F
              refine CW.region ?_
              refine LW.pure rfl rfl (RV.move rfl) ?_
              refine LW.pure rfl rfl (RV.move rfl) ?_
              refine LW.go rfl rfl (OW.buildSlice (e := 3) (vs := [.int .i64 t25_1]) (cs := [.int .i64 t25_1]) rfl (fun _ => by kernel_rfl) fun b3 w6 N3 => ?_)
              replace H := H.made' (k := 1) (t := 3) (enc := encN) (l := ([t25_1] : List Int)) N3 N3.blk (fun _ => rfl) rfl (by first | decide | omega | (simp; done) | (simp; omega))
              replace R0 := H.ext
              refine LW.go rfl rfl (OW.appendG (enc := encN) (l := l2) (xs := ([t25_1] : List Int)) Ts25 rfl (look_slice rfl (by first | rfl | (simp; done) | (simp; omega))) (H.own 1 rfl) (H.own 0 rfl).sl (fun _ => rfl) rfl rfl hg3 (by decide) fun A2 c2 w7 O2 M2 D1 => ?_)
              replace H : Hp w w7 [.own (some ⟨b3, 0, none⟩) ((([t25_1] : List Int)).length) 3 1 (List.map encN (([t25_1] : List Int))), .own A2 c2 3 1 (List.map encN ((l2 ++ ([t25_1] : List Int)))), .own (some ⟨b2, 0, none⟩) (((List.replicate (Int.toNat ((a1.length : Int))) (0 : Int))).length) 3 1 (List.map encN ((l3.set (Int.toNat t25_1) (x1 + 1)))), .blk b1 24 [.slice A_a0_worth a0.worth.length c_a0_worth]] := H.mod 1 rfl M2 O2 D1
              replace R0 := H.ext
              refine LW.pure rfl rfl (RV.assign rfl) ?_
              refine LW.nil (hK17 _ _ ?_)
              refine CW.exit ?_
              replace H := H.pick (L' := [.own A2 c2 3 1 (List.map encN ((l2 ++ ([t25_1] : List Int)))), .own (some ⟨b2, 0, none⟩) (((List.replicate (Int.toNat ((a1.length : Int))) (0 : Int))).length) 3 1 (List.map encN ((l3.set (Int.toNat t25_1) (x1 + 1)))), .blk b1 24 [.slice A_a0_worth a0.worth.length c_a0_worth]]) [1, 2, 3] (by decide) rfl
              replace R0 := H.ext
              subst hrec1
              refine ⟨mk1, Nat.lt_succ_self _, _, ?_, ((l2 ++ ([t25_1] : List Int))), ((l3.set (Int.toNat t25_1) (x1 + 1))), A2, c2, F, rfl, H⟩
              exact ⟨rfl, rfl, rfl, rfl, (look_slice rfl (by first | rfl | (simp; done) | (simp; omega))), (look_slice rfl (by first | rfl | (simp; done) | (simp; omega))), trivial⟩
            ·
              replace F := ite_n hp4 F
              have hq4 : t42_1 = false := raw_f hp4
              refine CW.condF rfl hq4 ?_
              refine CW.skip (hK14 _ _ ?_)
              obtain ⟨hg4, F⟩ := gd_some F
              refine CW.region ?_
              refine LW.pure rfl rfl (RV.add rfl rfl hg4) ?_
              refine LW.pure rfl rfl (RV.move rfl) ?_
              refine LW.nil ?_
              subst hrec2
              refine ⟨mk2, Nat.lt_succ_self _, _, ?_, (t25_1 + 1), F, rfl, H⟩
              exact ⟨rfl, rfl, rfl, rfl, (look_slice rfl (by first | rfl | (simp; done) | (simp; omega))), (look_slice rfl (by first | rfl | (simp; done) | (simp; omega))), rfl, rfl, trivial⟩
          ·
            intro K18 hK18 jK305
            obtain ⟨x3, hbx3, hx3, F⟩ := ix_some F
            obtain ⟨x4, hbx4, hx4, F⟩ := ix_some F
            by_cases hp5 : x3 < x4
            ·
              replace F := ite_y hp5 F
              have hq5 := dec_t hp5
              obtain ⟨r1, hr1, F⟩ := bnd_some F
              refine CW.draw [] (fun _ => True) (.cons 0 1 (.cons 1 1 (.cons 2 1 (.cons 3 1 (.cons 4 1 (.cons 5 1 (.cons 6 1 (.cons 7 1 (.cons 8 1 (.cons 9 1 (.cons 10 1 (.cons 11 1 (.cons 12 1 (.cons 13 0 (.cons 14 1 .nil))))))))))))))) mixed (by kernel_rfl) fun w8 E3 => ?_
              replace H := H.grow E3
              replace R0 := H.ext
              refine DW.fix rfl rfl rfl (fun _ EQ => RV.move rfl) ?_
              refine DW.fix rfl rfl rfl (fun _ EQ => RV.move rfl) ?_
              refine DW.fix rfl rfl rfl (fun _ EQ => RV.indexAddr Ts25 rfl rfl hbx3 ⟨_, rfl⟩) ?_
              refine DW.fix rfl rfl rfl (fun _ EQ => RV.load1 Tk3 rfl (((H.grow EQ).own 1 rfl).sl.at_ hx3) rfl) ?_
              refine DW.fix rfl rfl rfl (fun _ EQ => RV.move rfl) ?_
              refine DW.fix rfl rfl rfl (fun _ EQ => RV.move rfl) ?_
              refine DW.fix rfl rfl rfl (fun _ EQ => RV.indexAddr Ts25 rfl rfl hbx4 (h_a1.addr_ hx4)) ?_
              refine DW.fix rfl rfl rfl (fun _ EQ => RV.load1 Tk3 rfl ((h_a1.at_ hx4).ext (R0.trans EQ)) rfl) ?_
              refine DW.fix rfl rfl rfl (fun _ EQ => RV.lss rfl rfl) ?_
              refine DW.fix rfl rfl rfl (fun _ EQ => RV.move rfl) ?_
              refine DW.fixYB rfl rfl rfl rfl rfl hq5 (fun _ EQ => RV.loadA [.slice A_a0_worth a0.worth.length c_a0_worth] Tk24 rfl ((H.grow EQ).blk 2 rfl).cells rfl rfl) ?_
              refine DW.fixYB rfl rfl rfl rfl rfl hq5 (fun _ EQ => RV.move rfl) ?_
              refine DW.fixYB rfl rfl rfl rfl rfl hq5 (fun _ EQ => RV.move rfl) ?_
              refine DW.soleYB rfl rfl rfl rfl rfl hq5 (OW.call Tc61 rfl (cut_open_ok (a0 := a0) (a1 := l3) (a2 := t25_1) (h_a0_worth.ext R0) (H.own 1 rfl).sl hr1) ?_)
              rintro _ w9 ⟨rfl, E4⟩
              refine ⟨_, rfl, fun _ => E4, ModX.ext E4, ?_⟩
              replace H := H.grow E4
              replace R0 := H.ext
              refine DW.fix rfl rfl rfl (fun _ EQ => RV.pickTB rfl hq5 rfl) ?_
              refine DW.nil (jK305 _ _ ⟨_, ?_, ⟨r1, F, rfl, H⟩⟩)
              exact ⟨rfl, rfl, rfl, rfl, (look_slice rfl (by first | rfl | (simp; done) | (simp; omega))), (look_slice rfl (by first | rfl | (simp; done) | (simp; omega))), rfl, rfl, rfl, rfl, trivial⟩
            ·
              replace F := ite_n hp5 F
              have hq5 := dec_f hp5
              refine CW.draw [] (fun _ => True) (.cons 0 1 (.cons 1 1 (.cons 2 1 (.cons 3 1 (.cons 4 1 (.cons 5 1 (.cons 6 1 (.cons 7 1 (.cons 8 1 (.cons 9 1 (.cons 10 1 (.cons 11 1 (.cons 12 1 (.cons 13 0 (.cons 14 1 .nil))))))))))))))) mixed (by kernel_rfl) fun w10 E5 => ?_
              replace H := H.grow E5
              replace R0 := H.ext
              refine DW.fix rfl rfl rfl (fun _ EQ => RV.move rfl) ?_
              refine DW.fix rfl rfl rfl (fun _ EQ => RV.move rfl) ?_
              refine DW.fix rfl rfl rfl (fun _ EQ => RV.indexAddr Ts25 rfl rfl hbx3 ⟨_, rfl⟩) ?_
              refine DW.fix rfl rfl rfl (fun _ EQ => RV.load1 Tk3 rfl (((H.grow EQ).own 1 rfl).sl.at_ hx3) rfl) ?_
              refine DW.fix rfl rfl rfl (fun _ EQ => RV.move rfl) ?_
              refine DW.fix rfl rfl rfl (fun _ EQ => RV.move rfl) ?_
              refine DW.fix rfl rfl rfl (fun _ EQ => RV.indexAddr Ts25 rfl rfl hbx4 (h_a1.addr_ hx4)) ?_
              refine DW.fix rfl rfl rfl (fun _ EQ => RV.load1 Tk3 rfl ((h_a1.at_ hx4).ext (R0.trans EQ)) rfl) ?_
              refine DW.fix rfl rfl rfl (fun _ EQ => RV.lss rfl rfl) ?_
              refine DW.fix rfl rfl rfl (fun _ EQ => RV.move rfl) ?_
              refine DW.fixNB rfl rfl rfl rfl rfl (ne_beq (v := false) hq5 rfl) ?_
              refine DW.fixNB rfl rfl rfl rfl rfl (ne_beq (v := false) hq5 rfl) ?_
              refine DW.fixNB rfl rfl rfl rfl rfl (ne_beq (v := false) hq5 rfl) ?_
              refine DW.soleNB rfl rfl rfl rfl rfl (ne_beq (v := false) hq5 rfl) ?_
              refine DW.fix rfl rfl rfl (fun _ EQ => RV.pickFB rfl hq5 rfl) ?_
              refine DW.nil (jK305 _ _ ⟨_, ?_, ⟨false, F, rfl, H⟩⟩)
              exact ⟨rfl, rfl, rfl, rfl, (look_slice rfl (by first | rfl | (simp; done) | (simp; omega))), (look_slice rfl (by first | rfl | (simp; done) | (simp; omega))), rfl, rfl, rfl, rfl, trivial⟩
        ·
          replace F := ite_n hp3 F
          have hq3 := dec_f hp3
          refine CW.condF rfl hq3 ?_
          refine CW.exit ?_
          subst hrec1
          refine ⟨mk1, Nat.lt_succ_self _, _, ?_, l2, l3, Al2, cl2, F, rfl, H⟩
          exact ⟨rfl, rfl, rfl, rfl, (look_slice rfl (by first | rfl | (simp; done) | (simp; omega))), (look_slice rfl (by first | rfl | (simp; done) | (simp; omega))), trivial⟩
  ·
    replace F := ite_n hp1 F
    have hq1 := dec_f hp1
    refine CW.condT rfl (not_t hq1) ?_
    refine CW.seq fun K19 hK19 => ?_
    refine CW.region ?_
    refine LW.pure rfl rfl (RV.move rfl) ?_
    refine LW.pure rfl rfl (RV.assign rfl) ?_
    refine LW.pure rfl rfl (RV.assign rfl) ?_
    refine LW.nil (hK19 _ _ ?_)
    refine CW.ret ?_
    obtain rfl := Option.some.inj F
    refine ⟨_, (ResOK.two rfl rfl), ?_⟩
    replace H := H.nilOwn 3 1
    replace R0 := H.ext
    replace H := H.pick (L' := [.own none 0 3 1 (List.map encN (([] : List Int)))]) [0] (by decide) rfl
    replace R0 := H.ext
    exact ⟨none, 0, (by first | rfl | (simp; done) | (simp; omega)), H⟩

set_option maxRecDepth 20000 in
set_option maxHeartbeats 1000000 in
theorem ref04_Order_ok {a0 : Bog} {a1 : List Int} {A_a0_worth : Option Addr} {c_a0_worth : Nat} {A_a1 : Option Addr} {c_a1 : Nat} {w : World} {res : (List Int) × Int} (h_a0_worth : Sl2 w A_a0_worth c_a0_worth 1 encN a0.worth) (h_a1 : Sl w A_a1 c_a1 1 (a1.map encN)) (F : ref04_Order a0 a1 = some res) : Calls Try.prog 58 #[.agg #[.slice A_a0_worth a0.worth.length c_a0_worth], .slice A_a1 a1.length c_a1] w (fun e w' => ∃ (A1 : Option Addr) (c1 : Nat), e = .returned (.tuple #[.slice A1 res.1.length c1, .int .i64 res.2]) ∧ Hp w w' [.own A1 c1 3 1 (List.map encN res.1)]) := by
  refine calls_of_cw (args := [.agg #[.slice A_a0_worth a0.worth.length c_a0_worth], .slice A_a1 a1.length c_a1]) Try.func58 rfl rfl rfl rfl ?_
  have H := Hp.start w
  have R0 := H.ext
  unfold ref04_Order at F
  refine CW.seq fun K1 hK1 => ?_
  refine CW.region ?_
  refine LW.go rfl rfl (OW.box rfl fun b1 w1 N1 => ?_)
  replace H := H.new N1 N1.blk
  replace R0 := H.ext
  refine LW.pure rfl rfl (RV.assign rfl) ?_
  refine LW.pure rfl rfl (RV.assign rfl) ?_
  refine LW.nil (hK1 _ _ ?_)
  refine CW.seq fun K2 hK2 => ?_
  obtain ⟨r3, hr3, F⟩ := bnd_some F
  refine CW.region ?_
  refine LW.pure rfl rfl (RV.loadA [.slice A_a0_worth a0.worth.length c_a0_worth] Tk24 rfl (H.blk 0 rfl).cells rfl rfl) ?_
  refine LW.pure rfl rfl (RV.move rfl) ?_
  refine LW.go rfl rfl (OW.call Tc27 rfl (ref04_CheckHollow_ok (a0 := a0) (a1 := a1) (h_a0_worth.ext R0) (h_a1.ext R0) hr3) ?_)
  rintro _ w2 ⟨rfl, E1⟩
  refine ⟨_, rfl, ?_⟩
  replace H := H.grow E1
  replace R0 := H.ext
  refine LW.pure rfl rfl (RV.assign rfl) ?_
  refine LW.nil (hK2 _ _ ?_)
  refine CW.seq fun K3 hK3 => ?_
  refine CW.seq fun K4 hK4 => ?_
  refine CW.region ?_
  refine LW.pure rfl rfl (RV.move rfl) ?_
  refine LW.pure rfl rfl (RV.nei rfl rfl) ?_
  refine LW.nil (hK4 _ _ ?_)
  by_cases hp1 : r3 = 0
  ·
    replace F := ite_y hp1 F
    have hq1 := dec_t hp1
    refine CW.condF rfl (not_f hq1) ?_
    refine CW.skip (hK3 _ _ ?_)
    refine CW.seq fun K5 hK5 => ?_
    obtain ⟨hg1, F⟩ := gd_some F
    refine CW.region ?_
    refine LW.pure rfl rfl (RV.move rfl) ?_
    refine LW.pure rfl rfl (RV.len Ts25 rfl) ?_
    refine LW.go rfl rfl (OW.makeR (enc := encN) (0 : Int) Ts25 rfl rfl rfl rfl rfl hg1 (by decide) fun b2 w3 N2 => ?_)
    replace H := H.made' (k := 1) (t := 3) (enc := encN) (l := (List.replicate (Int.toNat ((a1.length : Int))) (0 : Int))) N2 N2.blk (fun _ => rfl) rfl (by first | decide | omega | (simp; done) | (simp; omega))
    replace R0 := H.ext
    refine LW.pure rfl rfl (RV.assign rfl) ?_
    refine LW.nil (hK5 _ _ ?_)
    refine CW.seq fun K6 hK6 => ?_
    refine CW.region ?_
    refine LW.pure rfl rfl (RV.assign rfl) ?_
    refine LW.nil (hK6 _ _ ?_)
    refine CW.seqJ (fun ρ wl1 => (∃ (l1 : List Int) (Al1 : Option Addr) (cl1 : Nat), ref04_Order_k1 l1 = some res ∧ ρ = [(4, .slice none 0 0), (5, .int .i64 0), (8, .slice Al1 l1.length cl1)] ∧ Hp w wl1 [.own Al1 cl1 3 1 (List.map encN l1)])) ?_ ?_
    ·
      rintro _ wl1 ⟨l1, Al1, cl1, F, rfl, H⟩
      have R0 := H.ext
      unfold ref04_Order_k1 at F
      refine CW.seq fun K7 hK7 => ?_
      refine CW.region ?_
      refine LW.pure rfl rfl (RV.move rfl) ?_
      refine LW.pure rfl rfl (RV.assign rfl) ?_
      refine LW.pure rfl rfl (RV.assign rfl) ?_
      refine LW.nil (hK7 _ _ ?_)
      refine CW.ret ?_
      obtain rfl := Option.some.inj F
      refine ⟨_, (ResOK.two rfl rfl), ?_⟩
      exact ⟨Al1, cl1, (by first | rfl | (simp; done) | (simp; omega)), H⟩
    ·
      intro K8 hK8 jK179
      refine CW.block ?_
      replace H := H.nilOwn 3 1
      replace R0 := H.ext
      replace H := H.pick (L' := [.own (some ⟨b2, 0, none⟩) (((List.replicate (Int.toNat ((a1.length : Int))) (0 : Int))).length) 3 1 (List.map encN ((List.replicate (Int.toNat ((a1.length : Int))) (0 : Int)))), .own none 0 3 1 (List.map encN (([] : List Int))), .blk b1 24 [.slice A_a0_worth a0.worth.length c_a0_worth]]) [1, 0, 2] (by decide) rfl
      replace R0 := H.ext
      refine CW.loop (fun meas ρ wl2 => ∃ (l2 : List Int) (l3 : List Int) (Al3 : Option Addr) (cl3 : Nat), ref04_Order_L2 a0 a1 meas l2 l3 = some res ∧ ρ = [(1, .slice A_a1 a1.length c_a1), (2, .pointer (some (⟨b1, 0, none⟩))), (4, .slice none 0 0), (5, .int .i64 0), (7, .slice (some ⟨b2, 0, none⟩) l2.length (((List.replicate (Int.toNat ((a1.length : Int))) (0 : Int))).length)), (8, .slice Al3 l3.length cl3)] ∧ Hp w wl2 [.own (some ⟨b2, 0, none⟩) (((List.replicate (Int.toNat ((a1.length : Int))) (0 : Int))).length) 3 1 (List.map encN l2), .own Al3 cl3 3 1 (List.map encN l3), .blk b1 24 [.slice A_a0_worth a0.worth.length c_a0_worth]]) FU ⟨_, ?_, ((List.replicate (Int.toNat ((a1.length : Int))) (0 : Int))), (([] : List Int)), none, 0, F, rfl, H⟩ ?_
      · exact ⟨rfl, rfl, rfl, rfl, (look_slice rfl (by first | rfl | (simp; done) | (simp; omega))), (look_slice rfl (by first | rfl | (simp; done) | (simp; omega))), trivial⟩
      rintro mk1 _ wl2 ⟨l2, l3, Al3, cl3, F, rfl, H⟩
      have R0 := H.ext
      replace F := ref04_Order_L2_s F
      obtain ⟨mk1, rfl, F⟩ := F
      generalize hrec1 : ref04_Order_L2 a0 a1 mk1 = rec1 at F
      unfold ref04_Order_B2 at F
      refine CW.seq fun K9 hK9 => ?_
      refine CW.seq fun K10 hK10 => ?_
      obtain ⟨r2, hr2, F⟩ := bnd_some F
      refine CW.region ?_
      refine LW.pure rfl rfl (RV.move rfl) ?_
      refine LW.pure rfl rfl (RV.move rfl) ?_
      refine LW.go rfl rfl (OW.call Tc21 rfl (ref04_SameInts_ok (a0 := l2) (a1 := a1) (H.own 0 rfl).sl (h_a1.ext R0) hr2) ?_)
      rintro _ w4 ⟨rfl, E2⟩
      refine ⟨_, rfl, ?_⟩
      replace H := H.grow E2
      replace R0 := H.ext
      refine LW.pure rfl rfl (RV.not rfl) ?_
      refine LW.nil (hK10 _ _ ?_)
      by_cases hp2 : r2 = true
      ·
        replace F := ite_y hp2 F
        have hq2 : r2 = true := hp2
        refine CW.condF rfl (not_f hq2) ?_
        replace H := H.pick (L' := [.own Al3 cl3 3 1 (List.map encN l3)]) [1] (by decide) rfl
        replace R0 := H.ext
        refine CW.exit (jK179 _ _ ⟨_, ?_, ⟨l3, Al3, cl3, F, rfl, H⟩⟩)
        exact ⟨rfl, rfl, (look_slice rfl (by first | rfl | (simp; done) | (simp; omega))), trivial⟩
      ·
        replace F := ite_n hp2 F
        have hq2 : r2 = false := raw_f hp2
        refine CW.condT rfl (not_t hq2) ?_
        refine CW.skip (hK9 _ _ ?_)
        refine CW.block ?_
        refine CW.seq fun K11 hK11 => ?_
        obtain ⟨r1, hr1, F⟩ := bnd_some F
        refine CW.region ?_
        refine LW.pure rfl rfl (RV.loadA [.slice A_a0_worth a0.worth.length c_a0_worth] Tk24 rfl (H.blk 2 rfl).cells rfl rfl) ?_
        refine LW.pure rfl rfl (RV.move rfl) ?_
        refine LW.go rfl rfl (OW.call Tc62 rfl (ref04_open_ok (a0 := a0) (a1 := l2) (h_a0_worth.ext R0) (H.own 0 rfl).sl hr1) ?_)
        rintro _ w5 ⟨A29_0, c29_0, rfl, E3⟩
        refine ⟨_, rfl, ?_⟩
        replace H : Hp w w5 [.own A29_0 c29_0 3 1 (List.map encN r1), .own (some ⟨b2, 0, none⟩) (((List.replicate (Int.toNat ((a1.length : Int))) (0 : Int))).length) 3 1 (List.map encN l2), .own Al3 cl3 3 1 (List.map encN l3), .blk b1 24 [.slice A_a0_worth a0.worth.length c_a0_worth]] := H.append E3
        replace R0 := H.ext
        refine LW.pure rfl rfl (RV.assign rfl) ?_
        refine LW.nil (hK11 _ _ ?_)
        refine CW.seq fun K12 hK12 => ?_
        refine CW.region ?_
        refine LW.pure rfl rfl (RV.assign rfl) ?_
        refine LW.nil (hK12 _ _ ?_)
        refine CW.seqJ (fun ρ wl3 => (∃ (t10_1 : Int), ref04_Order_k2 l2 l3 rec1 r1 t10_1 = some res ∧ ρ = [(1, .slice A_a1 a1.length c_a1), (2, .pointer (some (⟨b1, 0, none⟩))), (4, .slice none 0 0), (5, .int .i64 0), (7, .slice (some ⟨b2, 0, none⟩) l2.length (((List.replicate (Int.toNat ((a1.length : Int))) (0 : Int))).length)), (8, .slice Al3 l3.length cl3), (9, .slice A29_0 r1.length c29_0), (10, .int .i64 t10_1)] ∧ Hp w wl3 [.own (some ⟨b2, 0, none⟩) (((List.replicate (Int.toNat ((a1.length : Int))) (0 : Int))).length) 3 1 (List.map encN l2), .own Al3 cl3 3 1 (List.map encN l3), .own A29_0 c29_0 3 1 (List.map encN r1), .blk b1 24 [.slice A_a0_worth a0.worth.length c_a0_worth]])) ?_ ?_
        ·
          rintro _ wl3 ⟨t10_1, F, rfl, H⟩
          have R0 := H.ext
          unfold ref04_Order_k2 at F
          refine CW.seq fun K13 hK13 => ?_
          obtain ⟨x1, hbx1, hx1, F⟩ := ix_some F
          obtain ⟨x2, hbx2, hx2, F⟩ := ix_some F
          obtain ⟨hg2, F⟩ := gd_some F
          obtain ⟨x3, hbx3, hx3, F⟩ := ix_some F
          refine CW.region ?_
          refine LW.pure rfl rfl (RV.move rfl) ?_
          refine LW.pure rfl rfl (RV.move rfl) ?_
          refine LW.pure rfl rfl (RV.move rfl) ?_
          refine LW.pure rfl rfl (RV.indexAddr Ts25 rfl rfl hbx1 ((H.own 2 rfl).sl.addr_ hx1)) ?_
          refine LW.pure rfl rfl (RV.load1 Tk3 rfl ((H.own 2 rfl).sl.at_ hx1) rfl) ?_
          refine LW.pure rfl rfl (RV.indexAddr Ts25 rfl rfl hbx2 ⟨_, rfl⟩) ?_
          refine LW.pure rfl rfl (RV.load1 Tk3 rfl ((H.own 0 rfl).sl.at_ hx2) rfl) ?_
          refine LW.pure rfl rfl (RV.add rfl rfl hg2) ?_
          refine LW.pure rfl rfl (RV.indexAddr Ts25 rfl rfl hbx3 ⟨_, rfl⟩) ?_
          refine LW.go rfl rfl (OW.storeO (enc := encN) (vs := [.int .i64 (x2 + 1)]) 0 (x2 + 1) Tk3 rfl rfl (H.own 0 rfl) (fun _ => rfl) rfl hx3 rfl rfl (by decide) rfl rfl fun w6 M1 O1 => ?_)
          replace H : Hp w w6 [.own (some ⟨b2, 0, none⟩) (((List.replicate (Int.toNat ((a1.length : Int))) (0 : Int))).length) 3 1 (List.map encN ((l2.set (Int.toNat x1) (x2 + 1)))), .own Al3 cl3 3 1 (List.map encN l3), .own A29_0 c29_0 3 1 (List.map encN r1), .blk b1 24 [.slice A_a0_worth a0.worth.length c_a0_worth]] := H.mod 0 rfl M1 O1 (.inl rfl)
          replace R0 := H.ext
          refine LW.nil (hK13 _ _ ?_)
          obtain ⟨x4, hbx4, hx4, F⟩ := ix_some F
          obtain ⟨hg3, F⟩ := gd_some F
          refine CW.region ?_
          refine LW.pure rfl rfl (RV.move rfl) ?_
          refine LW.pure rfl rfl (RV.move rfl) ?_
          refine LW.pure rfl rfl (RV.move rfl) ?_
          refine LW.pure rfl rfl (RV.indexAddr Ts25 rfl rfl hbx4 ((H.own 2 rfl).sl.addr_ hx4)) ?_
          refine LW.pure rfl rfl (RV.load1 Tk3 rfl ((H.own 2 rfl).sl.at_ hx4) rfl) ?_
          refine LW.go rfl rfl (OW.buildSlice (e := 3) (vs := [.int .i64 x4]) (cs := [.int .i64 x4]) rfl (fun _ => by kernel_rfl) fun b3 w7 N3 => ?_)
          replace H := H.made' (k := 1) (t := 3) (enc := encN) (l := ([x4] : List Int)) N3 N3.blk (fun _ => rfl) rfl (by first | decide | omega | (simp; done) | (simp; omega))
          replace R0 := H.ext
          refine LW.go rfl rfl (OW.appendG (enc := encN) (l := l3) (xs := ([x4] : List Int)) Ts25 rfl (look_slice rfl (by first | rfl | (simp; done) | (simp; omega))) (H.own 2 rfl) (H.own 0 rfl).sl (fun _ => rfl) rfl rfl hg3 (by decide) fun A2 c2 w8 O2 M2 D1 => ?_)
          replace H : Hp w w8 [.own (some ⟨b3, 0, none⟩) ((([x4] : List Int)).length) 3 1 (List.map encN (([x4] : List Int))), .own (some ⟨b2, 0, none⟩) (((List.replicate (Int.toNat ((a1.length : Int))) (0 : Int))).length) 3 1 (List.map encN ((l2.set (Int.toNat x1) (x2 + 1)))), .own A2 c2 3 1 (List.map encN ((l3 ++ ([x4] : List Int)))), .own A29_0 c29_0 3 1 (List.map encN r1), .blk b1 24 [.slice A_a0_worth a0.worth.length c_a0_worth]] := H.mod 2 rfl M2 O2 D1
          replace R0 := H.ext
          refine LW.pure rfl rfl (RV.assign rfl) ?_
          refine LW.nil ?_
          replace H := H.pick (L' := [.own (some ⟨b2, 0, none⟩) (((List.replicate (Int.toNat ((a1.length : Int))) (0 : Int))).length) 3 1 (List.map encN ((l2.set (Int.toNat x1) (x2 + 1)))), .own A2 c2 3 1 (List.map encN ((l3 ++ ([x4] : List Int)))), .blk b1 24 [.slice A_a0_worth a0.worth.length c_a0_worth]]) [1, 2, 4] (by decide) rfl
          replace R0 := H.ext
          subst hrec1
          refine ⟨mk1, Nat.lt_succ_self _, _, ?_, ((l2.set (Int.toNat x1) (x2 + 1))), ((l3 ++ ([x4] : List Int))), A2, c2, F, rfl, H⟩
          exact ⟨rfl, rfl, rfl, rfl, (look_slice rfl (by first | rfl | (simp; done) | (simp; omega))), (look_slice rfl (by first | rfl | (simp; done) | (simp; omega))), trivial⟩
        ·
          intro K14 hK14 jK227
          refine CW.block ?_
          replace H := H.pick (L' := [.own (some ⟨b2, 0, none⟩) (((List.replicate (Int.toNat ((a1.length : Int))) (0 : Int))).length) 3 1 (List.map encN l2), .own Al3 cl3 3 1 (List.map encN l3), .own A29_0 c29_0 3 1 (List.map encN r1), .blk b1 24 [.slice A_a0_worth a0.worth.length c_a0_worth]]) [1, 2, 0, 3] (by decide) rfl
          replace R0 := H.ext
          refine CW.loop (fun meas ρ wl4 => ∃ (t10_2 : Int), ref04_Order_L1 a1 l2 l3 rec1 r1 meas t10_2 = some res ∧ ρ = [(1, .slice A_a1 a1.length c_a1), (2, .pointer (some (⟨b1, 0, none⟩))), (4, .slice none 0 0), (5, .int .i64 0), (7, .slice (some ⟨b2, 0, none⟩) l2.length (((List.replicate (Int.toNat ((a1.length : Int))) (0 : Int))).length)), (8, .slice Al3 l3.length cl3), (9, .slice A29_0 r1.length c29_0), (10, .int .i64 t10_2)] ∧ Hp w wl4 [.own (some ⟨b2, 0, none⟩) (((List.replicate (Int.toNat ((a1.length : Int))) (0 : Int))).length) 3 1 (List.map encN l2), .own Al3 cl3 3 1 (List.map encN l3), .own A29_0 c29_0 3 1 (List.map encN r1), .blk b1 24 [.slice A_a0_worth a0.worth.length c_a0_worth]]) FU ⟨_, ?_, ((0 : Int)), F, rfl, H⟩ ?_
          · exact ⟨rfl, rfl, rfl, rfl, (look_slice rfl (by first | rfl | (simp; done) | (simp; omega))), (look_slice rfl (by first | rfl | (simp; done) | (simp; omega))), (look_slice rfl (by first | rfl | (simp; done) | (simp; omega))), rfl, trivial⟩
          rintro mk2 _ wl4 ⟨t10_2, F, rfl, H⟩
          have R0 := H.ext
          replace F := ref04_Order_L1_s F
          obtain ⟨mk2, rfl, F⟩ := F
          generalize hrec2 : ref04_Order_L1 a1 l2 l3 rec1 r1 mk2 = rec2 at F
          unfold ref04_Order_B1 at F
          refine CW.seq fun K15 hK15 => ?_
          refine CW.seq fun K16 hK16 => ?_
          obtain ⟨x5, hbx5, hx5, F⟩ := ix_some F
          obtain ⟨x6, hbx6, hx6, F⟩ := ix_some F
          obtain ⟨x7, hbx7, hx7, F⟩ := ix_some F
          obtain ⟨x8, hbx8, hx8, F⟩ := ix_some F
          refine CW.draw [] (fun _ => True) (.cons 0 1 (.cons 1 1 (.cons 2 1 (.cons 3 1 (.cons 4 1 (.cons 5 1 (.cons 6 1 (.cons 7 1 (.cons 8 1 (.cons 9 1 (.cons 10 1 (.cons 11 1 (.cons 12 1 (.cons 13 1 (.cons 14 1 .nil))))))))))))))) mixed (by kernel_rfl) fun w9 E4 => ?_
          replace H := H.grow E4
          replace R0 := H.ext
          refine DW.fix rfl rfl rfl (fun _ EQ => RV.move rfl) ?_
          refine DW.fix rfl rfl rfl (fun _ EQ => RV.move rfl) ?_
          refine DW.fix rfl rfl rfl (fun _ EQ => RV.move rfl) ?_
          refine DW.fix rfl rfl rfl (fun _ EQ => RV.indexAddr Ts25 rfl rfl hbx5 ((H.own 2 rfl).sl.addr_ hx5)) ?_
          refine DW.fix rfl rfl rfl (fun _ EQ => RV.load1 Tk3 rfl (((H.grow EQ).own 2 rfl).sl.at_ hx5) rfl) ?_
          refine DW.fix rfl rfl rfl (fun _ EQ => RV.indexAddr Ts25 rfl rfl hbx6 ⟨_, rfl⟩) ?_
          refine DW.fix rfl rfl rfl (fun _ EQ => RV.load1 Tk3 rfl (((H.grow EQ).own 0 rfl).sl.at_ hx6) rfl) ?_
          refine DW.fix rfl rfl rfl (fun _ EQ => RV.move rfl) ?_
          refine DW.fix rfl rfl rfl (fun _ EQ => RV.move rfl) ?_
          refine DW.fix rfl rfl rfl (fun _ EQ => RV.move rfl) ?_
          refine DW.fix rfl rfl rfl (fun _ EQ => RV.indexAddr Ts25 rfl rfl hbx7 ((H.own 2 rfl).sl.addr_ hx7)) ?_
          refine DW.fix rfl rfl rfl (fun _ EQ => RV.load1 Tk3 rfl (((H.grow EQ).own 2 rfl).sl.at_ hx7) rfl) ?_
          refine DW.fix rfl rfl rfl (fun _ EQ => RV.indexAddr Ts25 rfl rfl hbx8 (h_a1.addr_ hx8)) ?_
          refine DW.fix rfl rfl rfl (fun _ EQ => RV.load1 Tk3 rfl ((h_a1.at_ hx8).ext (R0.trans EQ)) rfl) ?_
          refine DW.fix rfl rfl rfl (fun _ EQ => RV.eqi rfl rfl) ?_
          refine DW.nil (hK16 _ _ ?_)
          by_cases hp3 : x6 = x8
          ·
            replace F := ite_y hp3 F
            have hq3 := dec_t hp3
            refine CW.condT rfl hq3 ?_
            refine CW.skip (hK15 _ _ ?_)
            refine CW.block ?_
            obtain ⟨hg4, F⟩ := gd_some F
            refine CW.region ?_
            refine LW.pure rfl rfl (RV.move rfl) ?_
            refine LW.pure rfl rfl (RV.add rfl rfl hg4) ?_
            refine LW.pure rfl rfl (RV.assign rfl) ?_
            refine LW.nil ?_
            subst hrec2
            refine ⟨mk2, Nat.lt_succ_self _, _, ?_, (t10_2 + 1), F, rfl, H⟩
            exact ⟨rfl, rfl, rfl, rfl, (look_slice rfl (by first | rfl | (simp; done) | (simp; omega))), (look_slice rfl (by first | rfl | (simp; done) | (simp; omega))), (look_slice rfl (by first | rfl | (simp; done) | (simp; omega))), rfl, trivial⟩
          ·
            replace F := ite_n hp3 F
            have hq3 := dec_f hp3
            refine CW.condF rfl hq3 ?_
            refine CW.exit (jK227 _ _ ⟨_, ?_, ⟨t10_2, F, rfl, H⟩⟩)
            exact ⟨rfl, rfl, rfl, rfl, (look_slice rfl (by first | rfl | (simp; done) | (simp; omega))), (look_slice rfl (by first | rfl | (simp; done) | (simp; omega))), (look_slice rfl (by first | rfl | (simp; done) | (simp; omega))), rfl, trivial⟩
  ·
    replace F := ite_n hp1 F
    have hq1 := dec_f hp1
    refine CW.condT rfl (not_t hq1) ?_
    refine CW.seq fun K17 hK17 => ?_
    refine CW.region ?_
    refine LW.pure rfl rfl (RV.move rfl) ?_
    refine LW.pure rfl rfl (RV.assign rfl) ?_
    refine LW.pure rfl rfl (RV.assign rfl) ?_
    refine LW.nil (hK17 _ _ ?_)
    refine CW.ret ?_
    obtain rfl := Option.some.inj F
    refine ⟨_, (ResOK.two rfl rfl), ?_⟩
    replace H := H.nilOwn 3 1
    replace R0 := H.ext
    replace H := H.pick (L' := [.own none 0 3 1 (List.map encN (([] : List Int)))]) [0] (by decide) rfl
    replace R0 := H.ext
    exact ⟨none, 0, (by first | rfl | (simp; done) | (simp; omega)), H⟩

set_option maxRecDepth 20000 in
set_option maxHeartbeats 1000000 in
theorem law04_CutPlans_ok {a0 : Bog} {a1 : List Int} {A_a0_worth : Option Addr} {c_a0_worth : Nat} {A_a1 : Option Addr} {c_a1 : Nat} {w : World} {res : Bool} (h_a0_worth : Sl2 w A_a0_worth c_a0_worth 1 encN a0.worth) (h_a1 : Sl w A_a1 c_a1 1 (a1.map encN)) (F : law04_CutPlans a0 a1 = some res) : Calls Try.prog 14 #[.agg #[.slice A_a0_worth a0.worth.length c_a0_worth], .slice A_a1 a1.length c_a1] w (Rt w (.bool res)) := by
  refine calls_of_cw (args := [.agg #[.slice A_a0_worth a0.worth.length c_a0_worth], .slice A_a1 a1.length c_a1]) Try.func14 rfl rfl rfl rfl ?_
  have H := Hp.start w
  have R0 := H.ext
  unfold law04_CutPlans at F
  refine CW.seq fun K1 hK1 => ?_
  refine CW.region ?_
  refine LW.go rfl rfl (OW.box rfl fun b1 w1 N1 => ?_)
  replace H := H.new N1 N1.blk
  replace R0 := H.ext
  refine LW.pure rfl rfl (RV.assign rfl) ?_
  refine LW.nil (hK1 _ _ ?_)
  refine CW.seq fun K2 hK2 => ?_
  refine CW.seq fun K3 hK3 => ?_
  obtain ⟨r6, hr6, F⟩ := bnd_some F
  refine CW.region ?_
  refine LW.pure rfl rfl (RV.loadA [.slice A_a0_worth a0.worth.length c_a0_worth] Tk24 rfl (H.blk 0 rfl).cells rfl rfl) ?_
  refine LW.pure rfl rfl (RV.move rfl) ?_
  refine LW.go rfl rfl (OW.buildSlice (e := 25) (vs := [.slice A_a1 a1.length c_a1]) (cs := [.slice A_a1 a1.length c_a1]) rfl (fun _ => by kernel_rfl) fun b2 w2 N2 => ?_)
  replace H := H.made' (k := 1) (t := 25) (enc := encH) (l := ([((A_a1, c_a1), a1)] : List ((Option Addr × Nat) × List Int))) N2 (by have q := N2.blk; simp only [List.flatMap_cons, List.flatMap_nil, encH, List.length_nil, List.append_nil, List.cons_append, List.nil_append]; first | done | exact q) (fun _ => rfl) rfl (by first | decide | omega | (simp; done) | (simp; omega))
  replace R0 := H.ext
  have hS23 : Sl2 w2 (some ⟨b2, 0, none⟩) 1 1 encN [a1] := Sl2.one (H.own 0 rfl).sl (h_a1.ext R0)
  refine LW.go rfl rfl (OW.call Tc17 (evs_cast rfl (by first | rfl | (simp; done) | (simp; omega))) (law04_Long_ok (a0 := a0) (a1 := ([a1] : List (List Int))) (h_a0_worth.ext R0) hS23 hr6) ?_)
  rintro _ w3 ⟨rfl, E1⟩
  refine ⟨_, rfl, ?_⟩
  have hS23 := hS23.ext E1
  replace H := H.grow E1
  replace R0 := H.ext
  refine LW.nil (hK3 _ _ ?_)
  by_cases hp1 : r6 = true
  ·
    replace F := ite_y hp1 F
    have hq1 : r6 = true := hp1
    refine CW.condT rfl hq1 ?_
    refine CW.seq fun K4 hK4 => ?_
    obtain ⟨r7, hr7, F⟩ := bnd_some F
    refine CW.region ?_
    refine LW.go rfl rfl (OW.call Tc18 rfl (law04_sane_ok hr7) ?_)
    rintro _ w4 ⟨rfl, E2⟩
    refine ⟨_, rfl, ?_⟩
    have hS23 := hS23.ext E2
    replace H := H.grow E2
    replace R0 := H.ext
    refine LW.pure rfl rfl (RV.assign rfl) ?_
    refine LW.nil (hK4 _ _ ?_)
    refine CW.ret ?_
    obtain rfl := Option.some.inj F
    refine ⟨_, (ResOK.one rfl), ?_⟩
    refine ⟨(by first | rfl | simp), R0⟩
  ·
    replace F := ite_n hp1 F
    have hq1 : r6 = false := raw_f hp1
    refine CW.condF rfl hq1 ?_
    refine CW.skip (hK2 _ _ ?_)
    refine CW.seq fun K5 hK5 => ?_
    obtain ⟨r1, hr1, F⟩ := bnd_some F
    refine CW.region ?_
    refine LW.pure rfl rfl (RV.loadA [.slice A_a0_worth a0.worth.length c_a0_worth] Tk24 rfl (H.blk 1 rfl).cells rfl rfl) ?_
    refine LW.pure rfl rfl (RV.move rfl) ?_
    refine LW.go rfl rfl (OW.call Tc57 rfl (cut_Order_ok (a0 := a0) (a1 := a1) (h_a0_worth.ext R0) (h_a1.ext R0) hr1) ?_)
    rintro _ w5 ⟨A16_0, c16_0, rfl, E3⟩
    refine ⟨_, rfl, ?_⟩
    have hS23 := hS23.ext E3.ext
    replace H : Hp w w5 [.own A16_0 c16_0 3 1 (List.map encN r1.1), .own (some ⟨b2, 0, none⟩) ((([((A_a1, c_a1), a1)] : List ((Option Addr × Nat) × List Int))).length) 25 1 (List.map encH (([((A_a1, c_a1), a1)] : List ((Option Addr × Nat) × List Int)))), .blk b1 24 [.slice A_a0_worth a0.worth.length c_a0_worth]] := H.append E3
    replace R0 := H.ext
    refine LW.pure rfl rfl (RV.move rfl) ?_
    refine LW.pure rfl rfl (RV.extract rfl rfl) ?_
    refine LW.pure rfl rfl (RV.extract rfl rfl) ?_
    refine LW.pure rfl rfl (RV.assign rfl) ?_
    refine LW.pure rfl rfl (RV.assign rfl) ?_
    refine LW.nil (hK5 _ _ ?_)
    refine CW.seq fun K6 hK6 => ?_
    obtain ⟨r8, hr8, F⟩ := bnd_some F
    refine CW.region ?_
    refine LW.pure rfl rfl (RV.loadA [.slice A_a0_worth a0.worth.length c_a0_worth] Tk24 rfl (H.blk 2 rfl).cells rfl rfl) ?_
    refine LW.pure rfl rfl (RV.move rfl) ?_
    refine LW.go rfl rfl (OW.call Tc58 rfl (ref04_Order_ok (a0 := a0) (a1 := a1) (h_a0_worth.ext R0) (h_a1.ext R0) hr8) ?_)
    rintro _ w6 ⟨A18_0, c18_0, rfl, E4⟩
    refine ⟨_, rfl, ?_⟩
    have hS23 := hS23.ext E4.ext
    replace H : Hp w w6 [.own A18_0 c18_0 3 1 (List.map encN r8.1), .own A16_0 c16_0 3 1 (List.map encN r1.1), .own (some ⟨b2, 0, none⟩) ((([((A_a1, c_a1), a1)] : List ((Option Addr × Nat) × List Int))).length) 25 1 (List.map encH (([((A_a1, c_a1), a1)] : List ((Option Addr × Nat) × List Int)))), .blk b1 24 [.slice A_a0_worth a0.worth.length c_a0_worth]] := H.append E4
    replace R0 := H.ext
    refine LW.pure rfl rfl (RV.move rfl) ?_
    refine LW.pure rfl rfl (RV.extract rfl rfl) ?_
    refine LW.pure rfl rfl (RV.extract rfl rfl) ?_
    refine LW.pure rfl rfl (RV.assign rfl) ?_
    refine LW.pure rfl rfl (RV.assign rfl) ?_
    refine LW.nil (hK6 _ _ ?_)
    refine CW.seq fun K7 hK7 => ?_
    refine CW.seqJ (fun ρ wl1 => (∃ (t37_1 : Bool), law04_CutPlans_k1 a0 a1 r1 t37_1 = some res ∧ ρ = [(1, .slice A_a1 a1.length c_a1), (2, .pointer (some (⟨b1, 0, none⟩))), (4, .bool false), (5, .slice A16_0 r1.1.length c16_0), (6, .int .i64 r1.2), (37, .bool t37_1)] ∧ Hp w wl1 [.own A16_0 c16_0 3 1 (List.map encN r1.1), .blk b1 24 [.slice A_a0_worth a0.worth.length c_a0_worth]])) ?_ ?_
    ·
      rintro _ wl1 ⟨t37_1, F, rfl, H⟩
      have R0 := H.ext
      unfold law04_CutPlans_k1 at F
      by_cases hp2 : t37_1 = true
      ·
        replace F := ite_y hp2 F
        have hq2 : t37_1 = true := hp2
        refine CW.condT rfl hq2 ?_
        refine CW.seq fun K8 hK8 => ?_
        refine CW.region ?_
        refine LW.pure rfl rfl (RV.assign rfl) ?_
        refine LW.nil (hK8 _ _ ?_)
        refine CW.ret ?_
        obtain rfl := Option.some.inj F
        refine ⟨_, (ResOK.one rfl), ?_⟩
        refine ⟨(by first | rfl | simp), R0⟩
      ·
        replace F := ite_n hp2 F
        have hq2 : t37_1 = false := raw_f hp2
        refine CW.condF rfl hq2 ?_
        refine CW.skip (hK7 _ _ ?_)
        refine CW.seq fun K9 hK9 => ?_
        refine CW.seq fun K10 hK10 => ?_
        refine CW.region ?_
        refine LW.pure rfl rfl (RV.move rfl) ?_
        refine LW.pure rfl rfl (RV.nei rfl rfl) ?_
        refine LW.nil (hK10 _ _ ?_)
        by_cases hp3 : r1.2 = 0
        ·
          replace F := ite_y hp3 F
          have hq3 := dec_t hp3
          refine CW.condF rfl (not_f hq3) ?_
          refine CW.skip (hK9 _ _ ?_)
          refine CW.seq fun K11 hK11 => ?_
          obtain ⟨r2, hr2, F⟩ := bnd_some F
          refine CW.region ?_
          refine LW.pure rfl rfl (RV.loadA [.slice A_a0_worth a0.worth.length c_a0_worth] Tk24 rfl (H.blk 1 rfl).cells rfl rfl) ?_
          refine LW.pure rfl rfl (RV.move rfl) ?_
          refine LW.go rfl rfl (OW.call Tc33 rfl (cut_CheckOrder_ok (a0 := a0) (a1 := r1.1) (h_a0_worth.ext R0) (H.own 0 rfl).sl hr2) ?_)
          rintro _ w7 ⟨A21_0, c21_0, rfl, E5⟩
          refine ⟨_, rfl, ?_⟩
          replace H : Hp w w7 [.own A21_0 c21_0 3 1 (List.map encN r2.1), .own A16_0 c16_0 3 1 (List.map encN r1.1), .blk b1 24 [.slice A_a0_worth a0.worth.length c_a0_worth]] := H.append E5
          replace R0 := H.ext
          refine LW.pure rfl rfl (RV.move rfl) ?_
          refine LW.pure rfl rfl (RV.extract rfl rfl) ?_
          refine LW.pure rfl rfl (RV.extract rfl rfl) ?_
          refine LW.pure rfl rfl (RV.extract rfl rfl) ?_
          refine LW.pure rfl rfl (RV.assign rfl) ?_
          refine LW.pure rfl rfl (RV.assign rfl) ?_
          refine LW.pure rfl rfl (RV.assign rfl) ?_
          refine LW.nil (hK11 _ _ ?_)
          refine CW.seq fun K12 hK12 => ?_
          by_cases hp4 : r2.2.2 = 0
          ·
            replace F := ite_y hp4 F
            have hq4 := dec_t hp4
            by_cases hp5 : r2.2.1 = ((r1.1.length : Int))
            ·
              replace F := ite_y hp5 F
              have hq5 := dec_t hp5
              obtain ⟨r3, hr3, F⟩ := bnd_some F
              by_cases hp6 : r3 = true
              ·
                replace F := ite_y hp6 F
                have hq6 : r3 = true := hp6
                obtain ⟨r4, hr4, F⟩ := bnd_some F
                refine CW.region ?_
                refine LW.pure rfl rfl (RV.move rfl) ?_
                refine LW.pure rfl rfl (RV.eqi rfl rfl) ?_
                refine LW.pure rfl rfl (RV.move rfl) ?_
                refine LW.pureYB rfl rfl rfl rfl hq4 (RV.move rfl) ?_
                refine LW.pureYB rfl rfl rfl rfl hq4 (RV.move rfl) ?_
                refine LW.pureYB rfl rfl rfl rfl hq4 (RV.len Ts25 rfl) ?_
                refine LW.pureYB rfl rfl rfl rfl hq4 (RV.eqi rfl rfl) ?_
                refine LW.pure rfl rfl (RV.pickTB rfl hq4 rfl) ?_
                refine LW.pure rfl rfl (RV.move rfl) ?_
                refine LW.pureYB rfl rfl rfl rfl hq5 (RV.move rfl) ?_
                refine LW.pureYB rfl rfl rfl rfl hq5 (RV.move rfl) ?_
                refine LW.yesB rfl rfl rfl rfl hq5 (OW.call Tc21 rfl (ref04_SameInts_ok (a0 := r2.1) (a1 := a1) (H.own 0 rfl).sl (h_a1.ext R0) hr3) ?_)
                rintro _ w8 ⟨rfl, E6⟩
                refine ⟨_, rfl, ?_⟩
                replace H := H.grow E6
                replace R0 := H.ext
                refine LW.pure rfl rfl (RV.pickTB rfl hq5 rfl) ?_
                refine LW.pure rfl rfl (RV.move rfl) ?_
                refine LW.yesB rfl rfl rfl rfl hq6 (OW.call Tc18 rfl (law04_sane_ok hr4) ?_)
                rintro _ w9 ⟨rfl, E7⟩
                refine ⟨_, rfl, ?_⟩
                replace H := H.grow E7
                replace R0 := H.ext
                refine LW.pure rfl rfl (RV.pickTB rfl hq6 rfl) ?_
                refine LW.pure rfl rfl (RV.assign rfl) ?_
                refine LW.nil (hK12 _ _ ?_)
                refine CW.ret ?_
                obtain rfl := Option.some.inj F
                refine ⟨_, (ResOK.one rfl), ?_⟩
                refine ⟨(by first | rfl | simp), R0⟩
              ·
                replace F := ite_n hp6 F
                have hq6 : r3 = false := raw_f hp6
                refine CW.region ?_
                refine LW.pure rfl rfl (RV.move rfl) ?_
                refine LW.pure rfl rfl (RV.eqi rfl rfl) ?_
                refine LW.pure rfl rfl (RV.move rfl) ?_
                refine LW.pureYB rfl rfl rfl rfl hq4 (RV.move rfl) ?_
                refine LW.pureYB rfl rfl rfl rfl hq4 (RV.move rfl) ?_
                refine LW.pureYB rfl rfl rfl rfl hq4 (RV.len Ts25 rfl) ?_
                refine LW.pureYB rfl rfl rfl rfl hq4 (RV.eqi rfl rfl) ?_
                refine LW.pure rfl rfl (RV.pickTB rfl hq4 rfl) ?_
                refine LW.pure rfl rfl (RV.move rfl) ?_
                refine LW.pureYB rfl rfl rfl rfl hq5 (RV.move rfl) ?_
                refine LW.pureYB rfl rfl rfl rfl hq5 (RV.move rfl) ?_
                refine LW.yesB rfl rfl rfl rfl hq5 (OW.call Tc21 rfl (ref04_SameInts_ok (a0 := r2.1) (a1 := a1) (H.own 0 rfl).sl (h_a1.ext R0) hr3) ?_)
                rintro _ w10 ⟨rfl, E8⟩
                refine ⟨_, rfl, ?_⟩
                replace H := H.grow E8
                replace R0 := H.ext
                refine LW.pure rfl rfl (RV.pickTB rfl hq5 rfl) ?_
                refine LW.pure rfl rfl (RV.move rfl) ?_
                refine LW.noB rfl rfl rfl rfl (ne_beq (v := false) hq6 rfl) ?_
                refine LW.pure rfl rfl (RV.pickFB rfl hq6 rfl) ?_
                refine LW.pure rfl rfl (RV.assign rfl) ?_
                refine LW.nil (hK12 _ _ ?_)
                refine CW.ret ?_
                obtain rfl := Option.some.inj F
                refine ⟨_, (ResOK.one rfl), ?_⟩
                refine ⟨(by first | rfl | simp), R0⟩
            ·
              replace F := ite_n hp5 F
              have hq5 := dec_f hp5
              refine CW.region ?_
              refine LW.pure rfl rfl (RV.move rfl) ?_
              refine LW.pure rfl rfl (RV.eqi rfl rfl) ?_
              refine LW.pure rfl rfl (RV.move rfl) ?_
              refine LW.pureYB rfl rfl rfl rfl hq4 (RV.move rfl) ?_
              refine LW.pureYB rfl rfl rfl rfl hq4 (RV.move rfl) ?_
              refine LW.pureYB rfl rfl rfl rfl hq4 (RV.len Ts25 rfl) ?_
              refine LW.pureYB rfl rfl rfl rfl hq4 (RV.eqi rfl rfl) ?_
              refine LW.pure rfl rfl (RV.pickTB rfl hq4 rfl) ?_
              refine LW.pure rfl rfl (RV.move rfl) ?_
              refine LW.noB rfl rfl rfl rfl (ne_beq (v := false) hq5 rfl) ?_
              refine LW.noB rfl rfl rfl rfl (ne_beq (v := false) hq5 rfl) ?_
              refine LW.noB rfl rfl rfl rfl (ne_beq (v := false) hq5 rfl) ?_
              refine LW.pure rfl rfl (RV.pickFB rfl hq5 rfl) ?_
              refine LW.pure rfl rfl (RV.move rfl) ?_
              refine LW.noB rfl rfl rfl rfl (ne_beq (v := false) rfl rfl) ?_
              refine LW.pure rfl rfl (RV.pickFB rfl rfl rfl) ?_
              refine LW.pure rfl rfl (RV.assign rfl) ?_
              refine LW.nil (hK12 _ _ ?_)
              refine CW.ret ?_
              obtain rfl := Option.some.inj F
              refine ⟨_, (ResOK.one rfl), ?_⟩
              refine ⟨(by first | rfl | simp), R0⟩
          ·
            replace F := ite_n hp4 F
            have hq4 := dec_f hp4
            refine CW.region ?_
            refine LW.pure rfl rfl (RV.move rfl) ?_
            refine LW.pure rfl rfl (RV.eqi rfl rfl) ?_
            refine LW.pure rfl rfl (RV.move rfl) ?_
            refine LW.noB rfl rfl rfl rfl (ne_beq (v := false) hq4 rfl) ?_
            refine LW.noB rfl rfl rfl rfl (ne_beq (v := false) hq4 rfl) ?_
            refine LW.noB rfl rfl rfl rfl (ne_beq (v := false) hq4 rfl) ?_
            refine LW.noB rfl rfl rfl rfl (ne_beq (v := false) hq4 rfl) ?_
            refine LW.pure rfl rfl (RV.pickFB rfl hq4 rfl) ?_
            refine LW.pure rfl rfl (RV.move rfl) ?_
            refine LW.noB rfl rfl rfl rfl (ne_beq (v := false) rfl rfl) ?_
            refine LW.noB rfl rfl rfl rfl (ne_beq (v := false) rfl rfl) ?_
            refine LW.noB rfl rfl rfl rfl (ne_beq (v := false) rfl rfl) ?_
            refine LW.pure rfl rfl (RV.pickFB rfl rfl rfl) ?_
            refine LW.pure rfl rfl (RV.move rfl) ?_
            refine LW.noB rfl rfl rfl rfl (ne_beq (v := false) rfl rfl) ?_
            refine LW.pure rfl rfl (RV.pickFB rfl rfl rfl) ?_
            refine LW.pure rfl rfl (RV.assign rfl) ?_
            refine LW.nil (hK12 _ _ ?_)
            refine CW.ret ?_
            obtain rfl := Option.some.inj F
            refine ⟨_, (ResOK.one rfl), ?_⟩
            refine ⟨(by first | rfl | simp), R0⟩
        ·
          replace F := ite_n hp3 F
          have hq3 := dec_f hp3
          refine CW.condT rfl (not_t hq3) ?_
          refine CW.seq fun K13 hK13 => ?_
          obtain ⟨r5, hr5, F⟩ := bnd_some F
          refine CW.region ?_
          refine LW.go rfl rfl (OW.call Tc18 rfl (law04_sane_ok hr5) ?_)
          rintro _ w11 ⟨rfl, E9⟩
          refine ⟨_, rfl, ?_⟩
          replace H := H.grow E9
          replace R0 := H.ext
          refine LW.pure rfl rfl (RV.assign rfl) ?_
          refine LW.nil (hK13 _ _ ?_)
          refine CW.ret ?_
          obtain rfl := Option.some.inj F
          refine ⟨_, (ResOK.one rfl), ?_⟩
          refine ⟨(by first | rfl | simp), R0⟩
    ·
      intro K14 hK14 jK28
      obtain ⟨r9, hr9, F⟩ := bnd_some F
      by_cases hp7 : r9 = true
      ·
        replace F := ite_y hp7 F
        have hq7 : r9 = true := hp7
        refine CW.region ?_
        refine LW.pure rfl rfl (RV.move rfl) ?_
        refine LW.pure rfl rfl (RV.move rfl) ?_
        refine LW.go rfl rfl (OW.call Tc21 rfl (ref04_SameInts_ok (a0 := r1.1) (a1 := r8.1) (H.own 1 rfl).sl (H.own 0 rfl).sl hr9) ?_)
        rintro _ w12 ⟨rfl, E10⟩
        refine ⟨_, rfl, ?_⟩
        have hS23 := hS23.ext E10
        replace H := H.grow E10
        replace R0 := H.ext
        refine LW.pure rfl rfl (RV.not rfl) ?_
        refine LW.pure rfl rfl (RV.move rfl) ?_
        refine LW.pureYB rfl rfl rfl rfl (not_f hq7) (RV.move rfl) ?_
        refine LW.pureYB rfl rfl rfl rfl (not_f hq7) (RV.move rfl) ?_
        refine LW.pureYB rfl rfl rfl rfl (not_f hq7) (RV.nei rfl rfl) ?_
        refine LW.pure rfl rfl (RV.pickFB rfl (not_f hq7) rfl) ?_
        replace H := H.pick (L' := [.own A16_0 c16_0 3 1 (List.map encN r1.1), .blk b1 24 [.slice A_a0_worth a0.worth.length c_a0_worth]]) [1, 3] (by decide) rfl
        replace R0 := H.ext
        refine LW.nil (jK28 _ _ ⟨_, ?_, ⟨(!(decide (r1.2 = r8.2))), F, rfl, H⟩⟩)
        exact ⟨rfl, rfl, rfl, (look_slice rfl (by first | rfl | (simp; done) | (simp; omega))), rfl, rfl, trivial⟩
      ·
        replace F := ite_n hp7 F
        have hq7 : r9 = false := raw_f hp7
        refine CW.region ?_
        refine LW.pure rfl rfl (RV.move rfl) ?_
        refine LW.pure rfl rfl (RV.move rfl) ?_
        refine LW.go rfl rfl (OW.call Tc21 rfl (ref04_SameInts_ok (a0 := r1.1) (a1 := r8.1) (H.own 1 rfl).sl (H.own 0 rfl).sl hr9) ?_)
        rintro _ w13 ⟨rfl, E11⟩
        refine ⟨_, rfl, ?_⟩
        have hS23 := hS23.ext E11
        replace H := H.grow E11
        replace R0 := H.ext
        refine LW.pure rfl rfl (RV.not rfl) ?_
        refine LW.pure rfl rfl (RV.move rfl) ?_
        refine LW.noB rfl rfl rfl rfl (ne_beq (v := true) (not_t hq7) rfl) ?_
        refine LW.noB rfl rfl rfl rfl (ne_beq (v := true) (not_t hq7) rfl) ?_
        refine LW.noB rfl rfl rfl rfl (ne_beq (v := true) (not_t hq7) rfl) ?_
        refine LW.pure rfl rfl (RV.pickTB rfl (not_t hq7) rfl) ?_
        replace H := H.pick (L' := [.own A16_0 c16_0 3 1 (List.map encN r1.1), .blk b1 24 [.slice A_a0_worth a0.worth.length c_a0_worth]]) [1, 3] (by decide) rfl
        replace R0 := H.ext
        refine LW.nil (jK28 _ _ ⟨_, ?_, ⟨true, F, rfl, H⟩⟩)
        exact ⟨rfl, rfl, rfl, (look_slice rfl (by first | rfl | (simp; done) | (simp; omega))), rfl, rfl, trivial⟩

end Go.D4

/- Loops of the functional texts, in closed form. -/
namespace Go.Tb
/-- A loop over 0 .. N - 1 with a state, that is left at the first i for which p does not hold. -/
theorem scan_loop {S R : Type} (N : Nat) (p : Nat → Bool) (g : Nat → S) (L : Nat → S → Int → Option R) (yes : Option R) (no : Nat → Option R)
    (step : ∀ n i : Nat, i < N → L (n + 1) (g i) (i : Int) = if p i = true then L n (g (i + 1)) ((i + 1 : Nat) : Int) else no i)
    (stop : ∀ n : Nat, L (n + 1) (g N) (N : Int) = yes) : ∀ (d n i : Nat), N = i + d → d < n → L n (g i) (i : Int) = match (List.range' i d).find? (fun j => !p j) with | none => yes | some j => no j
  | 0, n + 1, i, hd, hn => by
    have hi : i = N := by omega
    subst hi
    rw [stop n]; rfl
  | d + 1, n + 1, i, hd, hn => by
    rw [step n i (by omega), List.range'_succ, List.find?_cons]
    cases hp : p i
    · simp
    · simp only [if_true, Bool.not_true]
      exact scan_loop N p g L yes no step stop d n (i + 1) (by omega) (by omega)
theorem find_all {p : Nat → Bool} {i d : Nat} : (List.range' i d).find? (fun j => !p j) = none ↔ ∀ j, i ≤ j → j < i + d → p j = true := by
  rw [List.find?_eq_none]
  constructor
  · intro h j h1 h2
    have := h j (by rw [List.mem_range'_1]; omega)
    simpa using this
  · intro h x hx
    rw [List.mem_range'_1] at hx
    simp [h x hx.1 hx.2]
/-- A loop over 0 .. N - 1 with a state and no way out. -/
theorem for_loop {S R : Type} (N : Nat) (g : Nat → S) (L : Nat → S → Int → Option R) (yes : Option R)
    (step : ∀ n i : Nat, i < N → L (n + 1) (g i) (i : Int) = L n (g (i + 1)) ((i + 1 : Nat) : Int))
    (stop : ∀ n : Nat, L (n + 1) (g N) (N : Int) = yes) : ∀ (d n i : Nat), N = i + d → d < n → L n (g i) (i : Int) = yes
  | 0, n + 1, i, hd, hn => by
    have hi : i = N := by omega
    subst hi
    exact stop n
  | d + 1, n + 1, i, hd, hn => by
    rw [step n i (by omega)]
    exact for_loop N g L yes step stop d n (i + 1) (by omega) (by omega)
theorem for_loop0 {S R : Type} (N : Nat) (g : Nat → S) (L : Nat → S → Int → Option R) (yes : Option R)
    (step : ∀ n i : Nat, i < N → L (n + 1) (g i) (i : Int) = L n (g (i + 1)) ((i + 1 : Nat) : Int))
    (stop : ∀ n : Nat, L (n + 1) (g N) (N : Int) = yes) (hN : N ≤ 9223372036854775807) : L FU (g 0) 0 = yes :=
  for_loop N g L yes step stop N FU 0 (by omega) (by have := FU_pos; omega)
theorem scan_loop0 {S R : Type} (N : Nat) (p : Nat → Bool) (g : Nat → S) (L : Nat → S → Int → Option R) (yes no : Option R)
    (step : ∀ n i : Nat, i < N → L (n + 1) (g i) (i : Int) = if p i = true then L n (g (i + 1)) ((i + 1 : Nat) : Int) else no)
    (stop : ∀ n : Nat, L (n + 1) (g N) (N : Int) = yes) (hN : N ≤ 9223372036854775807) : L FU (g 0) 0 = if (∀ j, j < N → p j = true) then yes else no := by
  have h := scan_loop N p g L yes (fun _ => no) step stop N FU 0 (by omega) (by have := FU_pos; omega)
  refine Eq.trans h ?_
  cases hf : (List.range' 0 N).find? (fun j => !p j) with
  | none => rw [if_pos (fun j hj => find_all.1 hf j (by omega) (by omega))]
  | some j =>
    have h1 := List.find?_some hf
    have h2 := List.mem_of_find?_eq_some hf
    rw [List.mem_range'_1] at h2
    rw [if_neg]
    intro hall
    have := hall j (by omega)
    simp [this] at h1
/-- The same over the elements of a list. -/
theorem list_loop0 {α R : Type} (l : List α) (p : α → Bool) (L : Nat → Int → Option R) (yes no : Option R)
    (step : ∀ (n i : Nat) (x : α), l[i]? = some x → L (n + 1) (i : Int) = if p x = true then L n ((i + 1 : Nat) : Int) else no)
    (stop : ∀ n : Nat, L (n + 1) (l.length : Int) = yes) (hl : l.length ≤ 9223372036854775807) : L FU 0 = if l.all p = true then yes else no := by
  have h := scan_loop0 l.length (fun i => (l[i]?.map p).getD true) (fun _ => ()) (fun n _ i => L n i) yes no (fun n i hi => by
    have hx : l[i]? = some l[i] := by simp [hi]
    rw [step n i _ hx]; simp [hx]) stop hl
  refine Eq.trans h ?_
  by_cases ha : l.all p = true
  · rw [if_pos ha, if_pos]
    intro j hj
    have := List.all_eq_true.1 ha l[j] (List.getElem_mem hj)
    simp [hj, this]
  · rw [if_neg ha, if_neg]
    intro hc
    refine ha (List.all_eq_true.2 fun x hx => ?_)
    obtain ⟨j, hj⟩ := List.getElem?_of_mem hx
    have := hc j (lt_of_at hj)
    simpa [hj] using this
end Go.Tb

set_option linter.unusedVariables false
set_option linter.unusedSimpArgs false
namespace Go.D4
open Go.Tb

theorem sane_eq : law04_sane = some true := by decide +kernel

/-! ### loops -/
theorem scan_from {R : Type} (N s : Nat) (p : Nat → Bool) (L : Nat → Int → Option R) (yes no : Option R)
    (step : ∀ n i : Nat, s ≤ i → i < N → L (n + 1) (i : Int) = if p i = true then L n ((i + 1 : Nat) : Int) else no)
    (stop : ∀ n i : Nat, N ≤ i → L (n + 1) (i : Int) = yes) : ∀ (d n i : Nat), s ≤ i → N ≤ i + d → d < n → L n (i : Int) = if (∀ j, j < N → i ≤ j → p j = true) then yes else no
  | 0, n + 1, i, hs, hd, hn => by
    rw [stop n i (by omega), if_pos (fun j h1 h2 => by omega)]
  | d + 1, n + 1, i, hs, hd, hn => by
    by_cases hi : N ≤ i
    · rw [stop n i hi, if_pos (fun j h1 h2 => by omega)]
    · rw [step n i hs (by omega)]
      cases hp : p i
      · rw [if_neg (by simp), if_neg (fun h => by have := h i (by omega) (Nat.le_refl _); simp [hp] at this)]
      · rw [if_pos rfl, scan_from N s p L yes no step stop d n (i + 1) (by omega) (by omega) (by omega)]
        by_cases hall : ∀ j, j < N → i + 1 ≤ j → p j = true
        · rw [if_pos hall, if_pos (fun j h1 h2 => by
            by_cases hj : j = i
            · subst hj; exact hp
            · exact hall j h1 (by omega))]
        · rw [if_neg hall, if_neg (fun h => hall fun j h1 h2 => h j h1 (by omega))]
theorem scan1 {R : Type} (N : Nat) (p : Nat → Bool) (L : Nat → Int → Option R) (yes no : Option R)
    (step : ∀ n i : Nat, 1 ≤ i → i < N → L (n + 1) (i : Int) = if p i = true then L n ((i + 1 : Nat) : Int) else no)
    (stop : ∀ n i : Nat, N ≤ i → L (n + 1) (i : Int) = yes) (hN : N ≤ 9223372036854775807) : L FU 1 = if (∀ j, j < N → 1 ≤ j → p j = true) then yes else no :=
  scan_from N 1 p L yes no step stop N FU 1 (by omega) (by omega) (by have := FU_pos; omega)
theorem for0 {S R : Type} (N : Nat) (g : Nat → S) (L : Nat → S → Int → Option R) (yes : Option R) {s0 : S} (h0 : g 0 = s0)
    (step : ∀ n i : Nat, i < N → L (n + 1) (g i) (i : Int) = L n (g (i + 1)) ((i + 1 : Nat) : Int))
    (stop : ∀ n : Nat, L (n + 1) (g N) (N : Int) = yes) (hN : N ≤ 9223372036854775807) : L FU s0 0 = yes := by
  rw [← h0]; exact for_loop0 N g L yes step stop hN
/-- A library loop: is there an element for which f holds? -/
theorem ContainsFunc_eq (l : List Int) (f : Int → Option Bool) (q : Int → Bool) (hf : ∀ x, f x = some (q x)) (hl : l.length ≤ 1000000) : slices_ContainsFunc_int l f = some (l.any q) := by
  unfold slices_ContainsFunc_int slices_IndexFunc_int
  have h := scan_loop l.length (fun i => (l[i]?.map fun x => !q x).getD true) (fun _ => ()) (fun n _ i => slices_IndexFunc_int_L1 l f n i) (some (-1)) (fun j => some (j : Int)) (fun n i hi => ?_) (fun n => ?_) l.length FU 0 (by omega) (by have := FU_pos; omega)
  · rw [bnd_eq (x := match (List.range' 0 l.length).find? (fun j => !((l[j]?.map fun x => !q x).getD true)) with | none => -1 | some j => (j : Int)) (by
      refine Eq.trans h ?_
      cases (List.range' 0 l.length).find? (fun j => !((l[j]?.map fun x => !q x).getD true)) <;> rfl)]
    congr 1
    cases hf : (List.range' 0 l.length).find? (fun j => !((l[j]?.map fun x => !q x).getD true)) with
    | none =>
      have := find_all.1 hf
      have ha : l.any q = false := List.any_eq_false.2 fun x hx => by
        obtain ⟨j, hj⟩ := List.getElem?_of_mem hx
        have := this j (by omega) (by have := lt_of_at hj; omega)
        simpa [hj] using this
      simp [ha]
    | some j =>
      have h1 := List.find?_some hf
      have h2 := List.mem_of_find?_eq_some hf
      rw [List.mem_range'_1] at h2
      have hx : l[j]? = some l[j] := List.getElem?_eq_getElem (by omega)
      rw [hx] at h1
      have ha : l.any q = true := by
        rw [List.any_eq_true]
        exact ⟨l[j], List.getElem_mem _, by simpa using h1⟩
      simp [ha]
  · show slices_IndexFunc_int_B1 l f (slices_IndexFunc_int_L1 l f n) _ = _
    have hx : l[i]? = some l[i] := by simp [hi]
    unfold slices_IndexFunc_int_B1
    rw [if_pos (by omega), ix_nat hx, bnd_eq (hf _), gd_pos (by omega), hx]
    cases h : q l[i] <;> simp [h]
  · show slices_IndexFunc_int_B1 l f (slices_IndexFunc_int_L1 l f n) _ = _
    unfold slices_IndexFunc_int_B1
    rw [if_neg (by omega)]; rfl

/-! ### bogs -/
def within (n lo hi : Int) : Bool := decide (lo ≤ n) && decide (n ≤ hi)
theorem within_iff {n lo hi : Int} : within n lo hi = true ↔ lo ≤ n ∧ n ≤ hi := by unfold within; simp
theorem from_eq (n lo hi : Int) : cut_from n lo hi = some (within n lo hi) := by
  unfold cut_from within
  by_cases h : lo ≤ n <;> simp [h]
def dep (b : Bog) : Int := ((b.worth[0]?.getD []).length : Int)
theorem ix0 {α β : Type} {l : List α} {k : α → Option β} {x : α} (h : l[0]? = some x) : ix l 0 k = k x := ix_nat (i := 0) h
theorem depth_eq {b : Bog} (h : 1 ≤ b.worth.length) : cut_depth b = some (dep b) := by
  have hx : b.worth[0]? = some b.worth[0] := by simp
  unfold cut_depth dep
  rw [ix0 hx, hx]; rfl
theorem rdepth_eq {b : Bog} (h : 1 ≤ b.worth.length) : ref04_depth b = some (dep b) := by
  have hx : b.worth[0]? = some b.worth[0] := by simp
  unfold ref04_depth dep
  rw [ix0 hx, hx]; rfl
def okW (w : Int) : Bool := within w (-50) 50
def okCol (d : Int) (c : List Int) : Bool := decide ((c.length : Int) = d) && c.all okW
def okB (b : Bog) : Bool := within b.worth.length 1 6 && within (dep b) 1 4 && b.worth.all (okCol (dep b))
def validate (b : Bog) : Int := if okB b = true then 0 else 1
def Short (b : Bog) : Prop := b.worth.length ≤ 50 ∧ ∀ c ∈ b.worth, c.length ≤ 50
theorem Validate_1_eq (w : Int) : cut_Validate_1 w = some (!okW w) := by
  unfold cut_Validate_1; rw [bnd_eq (from_eq _ _ _)]; rfl
theorem any_not {l : List Int} : (l.any fun x => !okW x) = !(l.all okW) := by
  induction l with
  | nil => rfl
  | cons x r ih => simp [ih]
theorem Validate_eq {b : Bog} (hs : Short b) : cut_Validate b = some (validate b) := by
  unfold cut_Validate validate okB
  rw [bnd_eq (from_eq _ _ _)]
  cases h1 : within b.worth.length 1 6
  · rw [if_neg (by simp)]; unfold cut_Validate_k3; simp
  have h1' := within_iff.1 h1
  rw [if_pos rfl, bnd_eq (depth_eq (by omega)), bnd_eq (from_eq _ _ _)]
  cases h2 : within (dep b) 1 4
  · unfold cut_Validate_k3; simp
  unfold cut_Validate_k3
  rw [if_neg (by simp), list_loop0 b.worth (okCol (dep b)) (cut_Validate_L1 b) (some 0) (some 1) (fun n i x hx => ?_) (fun n => ?_) (by omega)]
  · cases b.worth.all (okCol (dep b)) <;> simp
  · have := lt_of_at hx
    have hxl := hs.2 x (List.mem_of_getElem? hx)
    show cut_Validate_B1 b (cut_Validate_L1 b n) _ = _
    unfold cut_Validate_B1 okCol
    rw [if_pos (by omega), ix_nat hx, bnd_eq (depth_eq (by omega))]
    unfold cut_Validate_k2
    by_cases hd : (x.length : Int) = dep b
    · rw [if_pos hd, bnd_eq (ContainsFunc_eq x _ _ Validate_1_eq (by omega)), any_not, gd_pos (by omega)]
      cases x.all okW <;> simp [hd]
    · rw [if_neg hd, gd_pos (by omega)]; simp [hd]
  · show cut_Validate_B1 b (cut_Validate_L1 b n) _ = _
    unfold cut_Validate_B1
    rw [if_neg (by omega)]; rfl
theorem rValidate_eq {b : Bog} (hs : Short b) : ref04_Validate b = some (validate b) := by
  unfold ref04_Validate validate okB
  by_cases h1 : (b.worth.length : Int) < 1
  · have : within b.worth.length 1 6 = false := by simp [within]; omega
    rw [if_pos h1, this]; unfold ref04_Validate_k4; simp
  rw [if_neg h1]
  by_cases h2 : (6 : Int) < b.worth.length
  · have : within b.worth.length 1 6 = false := by simp [within]; omega
    rw [if_pos h2, this]; unfold ref04_Validate_k4; simp
  rw [if_neg h2]
  have h3 : within b.worth.length 1 6 = true := within_iff.2 (by omega)
  have h0 : b.worth[0]? = some b.worth[0] := by simp
  have hd : dep b = (b.worth[0].length : Int) := by unfold dep; rw [h0]; rfl
  rw [ix0 h0, ix0 h0, h3, ← hd]
  by_cases h4 : dep b < 1
  · have : within (dep b) 1 4 = false := by simp [within]; omega
    rw [if_pos h4, this]; unfold ref04_Validate_k4; simp
  rw [if_neg h4]
  by_cases h5 : 4 < dep b
  · have : within (dep b) 1 4 = false := by simp [within]; omega
    simp only [h5, this]; unfold ref04_Validate_k4; simp
  have h6 : within (dep b) 1 4 = true := within_iff.2 (by omega)
  simp only [h5, h6, decide_false, Bool.true_and]
  unfold ref04_Validate_k4
  rw [if_neg (by simp), list_loop0 b.worth (okCol (dep b)) (ref04_Validate_L2 b) (some 0) (some 1) (fun n i x hx => ?_) (fun n => ?_) (by omega)]
  · cases b.worth.all (okCol (dep b)) <;> simp
  · have := lt_of_at hx
    have hxl := hs.2 x (List.mem_of_getElem? hx)
    show ref04_Validate_B2 b (ref04_Validate_L2 b n) _ = _
    unfold ref04_Validate_B2 okCol
    rw [if_pos (by omega), ix_nat hx, ix0 h0, ← hd]
    by_cases hdd : (x.length : Int) = dep b
    · rw [if_pos hdd, list_loop0 x okW (ref04_Validate_L1 b i (ref04_Validate_L2 b n)) (ref04_Validate_L2 b n ((i + 1 : Nat) : Int)) (some 1) (fun m j v hv => ?_) (fun m => ?_) (by omega)]
      · cases x.all okW <;> simp [hdd]
      · have := lt_of_at hv
        show ref04_Validate_B1 b i (ref04_Validate_L2 b n) (ref04_Validate_L1 b i (ref04_Validate_L2 b n) m) _ = _
        unfold ref04_Validate_B1
        rw [ix_nat hx, if_pos (by omega), ix_nat hx, ix_nat hv]
        unfold ref04_Validate_k3
        by_cases hb : (50 : Int) < v
        · rw [if_pos hb]; simp [okW, within]; omega
        · rw [if_neg hb, ix_nat hx, ix_nat hv, gd_pos (by omega)]
          by_cases hc : v < -50
          · simp [hc, okW, within]; omega
          · have : okW v = true := within_iff.2 (by omega)
            simp [hc, this]
      · show ref04_Validate_B1 b i (ref04_Validate_L2 b n) (ref04_Validate_L1 b i (ref04_Validate_L2 b n) m) _ = _
        unfold ref04_Validate_B1
        rw [ix_nat hx, if_neg (by omega)]
        unfold ref04_Validate_k2
        rw [gd_pos (by omega)]; rfl
    · rw [if_neg hdd]; simp [hdd]
  · show ref04_Validate_B2 b (ref04_Validate_L2 b n) _ = _
    unfold ref04_Validate_B2
    rw [if_neg (by omega)]; rfl
end Go.D4

set_option linter.unusedVariables false
set_option linter.unusedSimpArgs false
namespace Go.D4
open Go.Tb

def gi (l : List Int) (i : Nat) : Int := l.getD i 0
theorem gi_of {l : List Int} {i : Nat} {x : Int} (h : l[i]? = some x) : gi l i = x := by simp [gi, List.getD, h]
def rightB (h : List Int) : Bool := decide (∀ j, j < h.length → 1 ≤ j → within (gi h j - gi h (j - 1)) (-1) 1 = true)
def okL (b : Bog) (h : List Int) : Bool := decide ((h.length : Int) = b.worth.length) && h.all (fun n => within n 0 (dep b))
def listE (b : Bog) (h : List Int) : Int := if validate b = 0 then (if okL b h = true then 0 else 1) else validate b
def hollowE (b : Bog) (h : List Int) : Int := if listE b h = 0 then (if rightB h = true then 0 else 6) else listE b h

structure Ok (b : Bog) : Prop where
  n1 : 1 ≤ b.worth.length
  n6 : b.worth.length ≤ 6
  d1 : 1 ≤ dep b
  d4 : dep b ≤ 4
  col : ∀ c ∈ b.worth, (c.length : Int) = dep b ∧ ∀ w ∈ c, -50 ≤ w ∧ w ≤ 50
theorem okB_iff {b : Bog} : okB b = true ↔ Ok b := by
  unfold okB
  simp only [Bool.and_eq_true, within_iff, List.all_eq_true, okCol, decide_eq_true_eq, okW]
  constructor
  · rintro ⟨⟨h1, h2⟩, h3⟩
    exact ⟨by omega, by omega, h2.1, h2.2, h3⟩
  · intro h
    exact ⟨⟨⟨by have := h.n1; omega, by have := h.n6; omega⟩, h.d1, h.d4⟩, h.col⟩
theorem val0 {b : Bog} : validate b = 0 ↔ Ok b := by
  rw [← okB_iff]; unfold validate; split <;> simp_all
theorem okL_iff {b : Bog} {h : List Int} : okL b h = true ↔ h.length = b.worth.length ∧ ∀ x ∈ h, 0 ≤ x ∧ x ≤ dep b := by
  unfold okL
  simp only [Bool.and_eq_true, decide_eq_true_eq, List.all_eq_true, within_iff]
  constructor
  · rintro ⟨h1, h2⟩; exact ⟨by omega, h2⟩
  · rintro ⟨h1, h2⟩; exact ⟨by omega, h2⟩
theorem list0 {b : Bog} {h : List Int} : listE b h = 0 ↔ Ok b ∧ okL b h = true := by
  unfold listE
  constructor
  · intro h0
    split at h0
    · rename_i hv
      split at h0
      · rename_i ho; exact ⟨val0.1 hv, ho⟩
      · cases h0
    · rename_i hv; exact absurd h0 hv
  · rintro ⟨h1, h2⟩
    rw [if_pos (val0.2 h1), if_pos h2]
theorem hollow0 {b : Bog} {h : List Int} : hollowE b h = 0 ↔ Ok b ∧ okL b h = true ∧ rightB h = true := by
  unfold hollowE
  constructor
  · intro h0
    split at h0
    · rename_i hv
      split at h0
      · rename_i ho; exact ⟨(list0.1 hv).1, (list0.1 hv).2, ho⟩
      · cases h0
    · rename_i hv; exact absurd h0 hv
  · rintro ⟨h1, h2, h3⟩
    rw [if_pos (list0.2 ⟨h1, h2⟩), if_pos h3]

theorem isList_eq {b : Bog} {h : List Int} (hs : Short b) (hl : h.length ≤ 1000000) : cut_isList b h = some (listE b h) := by
  unfold cut_isList listE
  rw [bnd_eq (Validate_eq hs)]
  by_cases hv : validate b = 0
  · have hb := val0.1 hv
    rw [if_pos hv, if_pos hv]
    have hf : ∀ x, cut_isList_1 b x = some (!within x 0 (dep b)) := fun x => by
      unfold cut_isList_1
      rw [bnd_eq (depth_eq hb.n1), bnd_eq (from_eq _ _ _)]
    have hn : (h.any fun x => !within x 0 (dep b)) = !(h.all fun x => within x 0 (dep b)) := by
      induction h with
      | nil => rfl
      | cons x r ih => simp only [List.any_cons, List.all_cons, ih (by simp at hl; omega), Bool.not_and]
    by_cases hln : (h.length : Int) = b.worth.length
    · rw [if_pos hln, bnd_eq (ContainsFunc_eq h _ _ hf hl), hn]
      unfold cut_isList_k1 okL
      cases h.all fun x => within x 0 (dep b) <;> simp [hln]
    · rw [if_neg hln]
      unfold cut_isList_k1 okL
      simp [hln]
  · rw [if_neg hv, if_neg hv]
theorem numbers_eq {b : Bog} {h : List Int} (hs : Short b) (hl : h.length ≤ 1000000) : ref04_numbers b h = some (listE b h) := by
  unfold ref04_numbers listE
  rw [bnd_eq (rValidate_eq hs)]
  by_cases hv : validate b = 0
  · have hb := val0.1 hv
    rw [if_pos hv, if_pos hv]
    by_cases hln : (h.length : Int) = b.worth.length
    · rw [if_pos hln, list_loop0 h (fun n => within n 0 (dep b)) (ref04_numbers_L1 b h) (some 0) (some 1) (fun n i x hx => ?_) (fun n => ?_) (by omega)]
      · unfold okL; cases h.all fun n => within n 0 (dep b) <;> simp [hln]
      · have := lt_of_at hx
        show ref04_numbers_B1 b h (ref04_numbers_L1 b h n) _ = _
        unfold ref04_numbers_B1 ref04_numbers_k2
        rw [if_pos (by omega), ix_nat hx]
        by_cases h0 : x < 0
        · rw [if_pos h0]; simp [within]; omega
        · rw [if_neg h0, ix_nat hx, bnd_eq (rdepth_eq hb.n1), gd_pos (by omega)]
          by_cases h1 : dep b < x
          · simp [h1, within]; omega
          · have : within x 0 (dep b) = true := within_iff.2 (by omega)
            simp [h1, this]
      · show ref04_numbers_B1 b h (ref04_numbers_L1 b h n) _ = _
        unfold ref04_numbers_B1
        rw [if_neg (by omega)]; rfl
    · rw [if_neg hln]; simp [okL, hln]
  · rw [if_neg hv, if_neg hv]

theorem right_eq {h : List Int} (hl : h.length ≤ 1000000) (hb : ∀ x ∈ h, -1000 ≤ x ∧ x ≤ 1000) : cut_right h = some (rightB h) := by
  unfold cut_right rightB
  rw [scan1 h.length (fun j => within (gi h j - gi h (j - 1)) (-1) 1) (cut_right_L1 h) (some true) (some false) (fun n i h1 hi => ?_) (fun n i hi => ?_) (by omega)]
  · by_cases hp : ∀ j, j < h.length → 1 ≤ j → within (gi h j - gi h (j - 1)) (-1) 1 = true
    · rw [if_pos hp, decide_eq_true hp]
    · rw [if_neg hp, decide_eq_false hp]
  · have hx : h[i]? = some h[i] := by simp [hi]
    have hy : h[i - 1]? = some h[i - 1] := List.getElem?_eq_getElem (by omega)
    have bx := hb h[i] (List.getElem_mem _)
    have by_ := hb h[i - 1] (List.getElem_mem _)
    show cut_right_B1 h (cut_right_L1 h n) _ = _
    unfold cut_right_B1
    rw [if_pos (by omega), ix_nat hx, gd_pos (by omega), show ((i : Int) - 1) = ((i - 1 : Nat) : Int) by omega, ix_nat hy, gd_pos (by omega), bnd_eq (from_eq _ _ _), gi_of hx, gi_of hy, gd_pos (by omega)]
    rfl
  · show cut_right_B1 h (cut_right_L1 h n) _ = _
    unfold cut_right_B1
    rw [if_neg (by omega)]; rfl
theorem rright_eq {h : List Int} (hl : h.length ≤ 1000000) (hb : ∀ x ∈ h, -1000 ≤ x ∧ x ≤ 1000) : ref04_right h = some (rightB h) := by
  unfold ref04_right rightB
  rw [scan1 h.length (fun j => within (gi h j - gi h (j - 1)) (-1) 1) (ref04_right_L1 h) (some true) (some false) (fun n i h1 hi => ?_) (fun n i hi => ?_) (by omega)]
  · by_cases hp : ∀ j, j < h.length → 1 ≤ j → within (gi h j - gi h (j - 1)) (-1) 1 = true
    · rw [if_pos hp, decide_eq_true hp]
    · rw [if_neg hp, decide_eq_false hp]
  · have hx : h[i]? = some h[i] := by simp [hi]
    have hy : h[i - 1]? = some h[i - 1] := List.getElem?_eq_getElem (by omega)
    have bx := hb h[i] (List.getElem_mem _)
    have by_ := hb h[i - 1] (List.getElem_mem _)
    show ref04_right_B1 h (ref04_right_L1 h n) _ = _
    unfold ref04_right_B1 ref04_right_k2
    rw [if_pos (by omega), ix_nat hx, gd_pos (by omega), show ((i : Int) - 1) = ((i - 1 : Nat) : Int) by omega, ix_nat hy, gd_pos (by omega), gi_of hx, gi_of hy]
    by_cases h1 : (1 : Int) < h[i] - h[i - 1]
    · rw [if_pos h1]; simp [within]; omega
    · rw [if_neg h1, gd_pos (by omega), ix_nat hy, ix_nat hx, gd_pos (by omega), gd_pos (by omega)]
      by_cases h2 : (1 : Int) < h[i - 1] - h[i]
      · simp [h2, within]; omega
      · have : within (h[i] - h[i - 1]) (-1) 1 = true := within_iff.2 (by omega)
        simp [h2, this]
  · show ref04_right_B1 h (ref04_right_L1 h n) _ = _
    unfold ref04_right_B1
    rw [if_neg (by omega)]; rfl
theorem CheckHollow_eq {b : Bog} {h : List Int} (hs : Short b) (hl : h.length ≤ 1000000) : cut_CheckHollow b h = some (hollowE b h) := by
  unfold cut_CheckHollow hollowE
  rw [bnd_eq (isList_eq hs hl)]
  by_cases h0 : listE b h = 0
  · have ⟨hb, ho⟩ := list0.1 h0
    have hx := (okL_iff.1 ho).2
    rw [if_pos h0, if_pos h0, bnd_eq (right_eq hl (fun x hm => by have := hx x hm; have := hb.d4; omega))]
    cases rightB h <;> rfl
  · rw [if_neg h0, if_neg h0]
theorem rCheckHollow_eq {b : Bog} {h : List Int} (hs : Short b) (hl : h.length ≤ 1000000) : ref04_CheckHollow b h = some (hollowE b h) := by
  unfold ref04_CheckHollow hollowE
  rw [bnd_eq (numbers_eq hs hl)]
  by_cases h0 : listE b h = 0
  · have ⟨hb, ho⟩ := list0.1 h0
    have hx := (okL_iff.1 ho).2
    rw [if_pos h0, if_pos h0, bnd_eq (rright_eq hl (fun x hm => by have := hx x hm; have := hb.d4; omega))]
    cases rightB h <;> rfl
  · rw [if_neg h0, if_neg h0]

/-! ### worth -/
def isum : List Int → Int
  | [] => 0
  | x :: r => x + isum r
theorem isum_append (l m : List Int) : isum (l ++ m) = isum l + isum m := by
  induction l with
  | nil => simp [isum]
  | cons x r ih => simp [isum, ih]; omega
theorem isum_take {l : List Int} {j : Nat} {x : Int} (h : l[j]? = some x) : isum (l.take (j + 1)) = isum (l.take j) + x := by
  have hj := lt_of_at h
  rw [List.take_succ_eq_append_getElem hj, isum_append]
  have : l[j] = x := by rw [List.getElem?_eq_getElem hj] at h; exact Option.some.inj h
  simp [isum, this]
theorem isum_bnd {l : List Int} (h : ∀ x ∈ l, -50 ≤ x ∧ x ≤ 50) : -50 * (l.length : Int) ≤ isum l ∧ isum l ≤ 50 * (l.length : Int) := by
  induction l with
  | nil => simp [isum]
  | cons x r ih =>
    have := ih (fun y hy => h y (List.mem_cons_of_mem _ hy))
    have := h x (List.mem_cons_self ..)
    simp only [isum, List.length_cons]
    omega
def colW (b : Bog) (c : Nat) (n : Int) : Int := isum ((b.worth.getD c []).take n.toNat)
def wsum (b : Bog) (h : List Int) : Nat → Int
  | 0 => 0
  | c + 1 => wsum b h c + colW b c (gi h c)
theorem col_of {b : Bog} {c : Nat} {x : List Int} (h : b.worth[c]? = some x) (n : Int) : colW b c n = isum (x.take n.toNat) := by simp [colW, List.getD, h]
theorem colW_bnd {b : Bog} (hb : Ok b) (c : Nat) (n : Int) : -200 ≤ colW b c n ∧ colW b c n ≤ 200 := by
  unfold colW
  have : ∀ x ∈ (b.worth.getD c []).take n.toNat, -50 ≤ x ∧ x ≤ 50 := fun x hx => by
    have hx := List.mem_of_mem_take hx
    by_cases hc : c < b.worth.length
    · have : b.worth.getD c [] = b.worth[c] := by simp [List.getD, hc]
      rw [this] at hx
      exact (hb.col _ (List.getElem_mem hc)).2 x hx
    · have : b.worth.getD c [] = [] := by simp [List.getD]; rw [List.getElem?_eq_none (by omega)]; rfl
      rw [this] at hx; cases hx
  have h1 := isum_bnd this
  have h2 : ((b.worth.getD c []).take n.toNat).length ≤ 4 := by
    rw [List.length_take]
    by_cases hc : c < b.worth.length
    · have e : b.worth.getD c [] = b.worth[c] := by simp [List.getD, hc]
      have := (hb.col _ (List.getElem_mem hc)).1
      have := hb.d4
      rw [e]; omega
    · have : b.worth.getD c [] = [] := by simp [List.getD]; rw [List.getElem?_eq_none (by omega)]; rfl
      rw [this]; simp
  omega
theorem wsum_bnd {b : Bog} (hb : Ok b) (h : List Int) : ∀ c : Nat, -200 * (c : Int) ≤ wsum b h c ∧ wsum b h c ≤ 200 * (c : Int)
  | 0 => by simp [wsum]
  | c + 1 => by
    have h1 := wsum_bnd hb h c
    have h2 := colW_bnd hb c (gi h c)
    simp only [wsum]
    omega
theorem worth_eq {b : Bog} {h : List Int} (hb : Ok b) (ho : okL b h = true) : cut_worth b h = some (wsum b h h.length) := by
  have ⟨hl, hx⟩ := okL_iff.1 ho
  have h6 := hb.n6
  unfold cut_worth
  refine Eq.trans (for_loop0 h.length (wsum b h) (fun n s i => cut_worth_L2 b h n s i) (some (wsum b h h.length)) (fun n i hi => ?_) (fun n => ?_) (by omega)) rfl
  · have hv : h[i]? = some h[i] := by simp [hi]
    have hc : b.worth[i]? = some b.worth[i] := List.getElem?_eq_getElem (by omega)
    have hcol := hb.col b.worth[i] (List.getElem_mem _)
    have hxi := hx h[i] (List.getElem_mem _)
    have hd := hb.d4
    show cut_worth_B2 b h (cut_worth_L2 b h n) _ _ = _
    unfold cut_worth_B2
    rw [if_pos (by omega), ix_nat hv, ix_nat hc, gd_pos (by omega)]
    have hlen : (List.take (Int.toNat h[i]) b.worth[i]).length = (h[i]).toNat := by rw [List.length_take]; omega
    have hws := wsum_bnd hb h i
    refine Eq.trans (for0 (List.take (Int.toNat h[i]) b.worth[i]).length (fun j => wsum b h i + isum ((List.take (Int.toNat h[i]) b.worth[i]).take j)) (fun m s j => cut_worth_L1 i (cut_worth_L2 b h n) h[i] b.worth[i] m s j) (cut_worth_L2 b h n (wsum b h (i + 1)) ((i + 1 : Nat) : Int)) (by simp [isum]) (fun m j hj => ?_) (fun m => ?_) (by omega)) rfl
    · have hw : (List.take (Int.toNat h[i]) b.worth[i])[j]? = some (List.take (Int.toNat h[i]) b.worth[i])[j] := by simp only [List.getElem?_eq_getElem hj]
      have hs := isum_bnd (l := (List.take (Int.toNat h[i]) b.worth[i]).take j) (fun x hm => hcol.2 x (List.mem_of_mem_take (List.mem_of_mem_take hm)))
      have hwb := hcol.2 _ (List.mem_of_mem_take (List.getElem_mem hj))
      have hjl : (List.take j (List.take (Int.toNat h[i]) b.worth[i])).length ≤ 4 := by rw [List.length_take]; omega
      show cut_worth_B1 i (cut_worth_L2 b h n) h[i] b.worth[i] (cut_worth_L1 i (cut_worth_L2 b h n) h[i] b.worth[i] m) _ _ = _
      unfold cut_worth_B1
      rw [if_pos (by omega), ix_nat hw, gd_pos (by omega), gd_pos (by omega), isum_take hw, Int.add_assoc]
      rfl
    · show cut_worth_B1 i (cut_worth_L2 b h n) h[i] b.worth[i] (cut_worth_L1 i (cut_worth_L2 b h n) h[i] b.worth[i] m) _ _ = _
      unfold cut_worth_B1
      rw [if_neg (by omega)]
      unfold cut_worth_k2
      rw [gd_pos (by omega), List.take_length]
      show cut_worth_L2 b h n _ _ = cut_worth_L2 b h n (wsum b h i + colW b i (gi h i)) _
      rw [gi_of hv, col_of hc]
      rfl
  · show cut_worth_B2 b h (cut_worth_L2 b h n) _ _ = _
    unfold cut_worth_B2
    rw [if_neg (by omega)]; rfl
theorem rworth_eq {b : Bog} {h : List Int} (hb : Ok b) (ho : okL b h = true) : ref04_worth b h = some (wsum b h h.length) := by
  have ⟨hl, hx⟩ := okL_iff.1 ho
  have h6 := hb.n6
  unfold ref04_worth
  refine Eq.trans (for_loop0 h.length (wsum b h) (fun n s i => ref04_worth_L2 b h n s i) (some (wsum b h h.length)) (fun n i hi => ?_) (fun n => ?_) (by omega)) rfl
  · have hv : h[i]? = some h[i] := by simp [hi]
    have hc : b.worth[i]? = some b.worth[i] := List.getElem?_eq_getElem (by omega)
    have hcol := hb.col b.worth[i] (List.getElem_mem _)
    have hxi := hx h[i] (List.getElem_mem _)
    have hd := hb.d4
    show ref04_worth_B2 b h (ref04_worth_L2 b h n) _ _ = _
    unfold ref04_worth_B2
    rw [if_pos (by omega)]
    have hws := wsum_bnd hb h i
    refine Eq.trans (for0 (h[i]).toNat (fun j => wsum b h i + isum (b.worth[i].take j)) (fun m s j => ref04_worth_L1 b h i (ref04_worth_L2 b h n) m s j) (ref04_worth_L2 b h n (wsum b h (i + 1)) ((i + 1 : Nat) : Int)) (by simp [isum]) (fun m j hj => ?_) (fun m => ?_) (by omega)) rfl
    · have hjc : j < b.worth[i].length := by omega
      have hw : b.worth[i][j]? = some b.worth[i][j] := by simp only [List.getElem?_eq_getElem hjc]
      have hs := isum_bnd (l := b.worth[i].take j) (fun x hm => hcol.2 x (List.mem_of_mem_take hm))
      have hwb := hcol.2 _ (List.getElem_mem hjc)
      have hjl : (List.take j b.worth[i]).length ≤ 4 := by rw [List.length_take]; omega
      show ref04_worth_B1 b h i (ref04_worth_L2 b h n) (ref04_worth_L1 b h i (ref04_worth_L2 b h n) m) _ _ = _
      unfold ref04_worth_B1
      rw [ix_nat hv, if_pos (by omega), ix_nat hc, ix_nat hw, gd_pos (by omega), gd_pos (by omega), isum_take hw, Int.add_assoc]
      rfl
    · show ref04_worth_B1 b h i (ref04_worth_L2 b h n) (ref04_worth_L1 b h i (ref04_worth_L2 b h n) m) _ _ = _
      unfold ref04_worth_B1
      rw [ix_nat hv, if_neg (by omega)]
      unfold ref04_worth_k2
      rw [gd_pos (by omega)]
      show ref04_worth_L2 b h n _ _ = ref04_worth_L2 b h n (wsum b h i + colW b i (gi h i)) _
      rw [gi_of hv, col_of hc]
      rfl
  · show ref04_worth_B2 b h (ref04_worth_L2 b h n) _ _ = _
    unfold ref04_worth_B2
    rw [if_neg (by omega)]; rfl
def worthR (b : Bog) (h : List Int) : Int × Int := if hollowE b h = 0 then (wsum b h h.length, 0) else (0, hollowE b h)
theorem Worth_eq {b : Bog} {h : List Int} (hs : Short b) (hl : h.length ≤ 1000000) : cut_Worth b h = some (worthR b h) := by
  unfold cut_Worth worthR
  rw [bnd_eq (CheckHollow_eq hs hl)]
  by_cases h0 : hollowE b h = 0
  · have ⟨hb, ho, _⟩ := hollow0.1 h0
    rw [if_pos h0, if_pos h0, bnd_eq (worth_eq hb ho)]
  · rw [if_neg h0, if_neg h0]
theorem rWorth_eq {b : Bog} {h : List Int} (hs : Short b) (hl : h.length ≤ 1000000) : ref04_Worth b h = some (worthR b h) := by
  unfold ref04_Worth worthR
  rw [bnd_eq (rCheckHollow_eq hs hl)]
  by_cases h0 : hollowE b h = 0
  · have ⟨hb, ho, _⟩ := hollow0.1 h0
    rw [if_pos h0, if_pos h0, bnd_eq (rworth_eq hb ho)]
  · rw [if_neg h0, if_neg h0]

/-! ### Long -/
def longB (b : Bog) (ls : List (List Int)) : Bool := !(ls.all fun l => !decide ((100 : Int) < l.length)) || (!(b.worth.all fun l => !decide ((50 : Int) < l.length)) || decide ((50 : Int) < b.worth.length))
theorem Long_eq {b : Bog} {ls : List (List Int)} (h1 : ls.length ≤ 9223372036854775807) (h2 : b.worth.length ≤ 9223372036854775807) : law04_Long b ls = some (longB b ls) := by
  unfold law04_Long longB
  rw [list_loop0 ls (fun l => !decide ((100 : Int) < l.length)) (law04_Long_L2 b ls) (law04_Long_k2 b) (some true) (fun n i x hx => ?_) (fun n => ?_) h1]
  · cases ls.all fun l => !decide ((100 : Int) < l.length)
    · simp
    · simp only [if_true, Bool.not_true, Bool.false_or]
      unfold law04_Long_k2
      rw [list_loop0 b.worth (fun l => !decide ((50 : Int) < l.length)) (law04_Long_L1 b) (law04_Long_k1 b) (some true) (fun n i x hx => ?_) (fun n => ?_) h2]
      · cases b.worth.all fun l => !decide ((50 : Int) < l.length)
        · simp
        · simp [law04_Long_k1]
      · have := lt_of_at hx
        show law04_Long_B1 b (law04_Long_L1 b n) _ = _
        unfold law04_Long_B1
        rw [if_pos (by omega), ix_nat hx, gd_pos (by omega)]
        by_cases h : (50 : Int) < x.length <;> simp [h]
      · show law04_Long_B1 b (law04_Long_L1 b n) _ = _
        unfold law04_Long_B1
        rw [if_neg (by omega)]
  · have := lt_of_at hx
    show law04_Long_B2 b ls (law04_Long_L2 b ls n) _ = _
    unfold law04_Long_B2
    rw [if_pos (by omega), ix_nat hx, gd_pos (by omega)]
    by_cases h : (100 : Int) < x.length <;> simp [h]
  · show law04_Long_B2 b ls (law04_Long_L2 b ls n) _ = _
    unfold law04_Long_B2
    rw [if_neg (by omega)]
theorem long_short {b : Bog} {ls : List (List Int)} (h : longB b ls = false) : Short b ∧ ∀ l ∈ ls, l.length ≤ 100 := by
  unfold longB at h
  simp only [Bool.or_eq_false_iff, Bool.not_eq_false', List.all_eq_true, Bool.not_eq_true', decide_eq_false_iff_not] at h
  obtain ⟨h1, h2, h3⟩ := h
  exact ⟨⟨by omega, fun c hc => by have := h2 c hc; omega⟩, fun l hl => by have := h1 l hl; omega⟩
theorem law_CutHollows (b : Bog) (h : List Int) (hb : b.worth.length ≤ 9223372036854775807) : law04_CutHollows b h = some true := by
  unfold law04_CutHollows
  rw [bnd_eq (Long_eq (by simp) hb)]
  cases hL : longB b [h]
  · obtain ⟨hs, h2⟩ := long_short hL
    have hl := h2 h (by simp)
    rw [if_neg (by simp), bnd_eq (Worth_eq hs (by omega)), bnd_eq (rWorth_eq hs (by omega)), bnd_eq (Validate_eq hs), bnd_eq (rValidate_eq hs), if_pos rfl, bnd_eq (CheckHollow_eq hs (by omega)), bnd_eq (rCheckHollow_eq hs (by omega)), if_pos rfl, if_pos rfl, if_pos rfl, bnd_eq sane_eq]
  · rw [if_pos rfl, bnd_eq sane_eq]
end Go.D4

set_option linter.unusedVariables false
set_option linter.unusedSimpArgs false
namespace Go.D4
open Go.Tb

theorem Clone_eq {l : List Int} (h : l.length ≤ 1000000) : slices_Clone_int l = some l := by
  unfold slices_Clone_int
  rw [gd_pos (by simpa using h)]; rfl
def bump (h : List Int) (c : Nat) : List Int := h.set c (gi h c + 1)
def openB (b : Bog) (h : List Int) (c : Nat) : Bool := decide (gi h c + 1 ≤ dep b) && rightB (bump h c)
theorem gi_mem {h : List Int} {c : Nat} (hc : c < h.length) : gi h c ∈ h := by
  have : h[c]? = some h[c] := by simp [hc]
  rw [gi_of this]; exact List.getElem_mem hc
theorem gi_at {h : List Int} {c : Nat} (hc : c < h.length) : h[c]? = some (gi h c) := by
  have : h[c]? = some h[c] := by simp [hc]
  rw [gi_of this]; exact this
theorem bump_mem {b : Bog} {h : List Int} (hb : Ok b) (ho : okL b h = true) (c : Nat) : ∀ x ∈ bump h c, -1000 ≤ x ∧ x ≤ 1000 := fun x hx => by
  have hx2 := (okL_iff.1 ho).2
  have hd := hb.d4
  unfold bump at hx
  rcases List.mem_or_eq_of_mem_set hx with h1 | h1
  · have := hx2 x h1; omega
  · by_cases hc : c < h.length
    · have := hx2 _ (gi_mem hc); omega
    · have : gi h c = 0 := by simp [gi, List.getD]; rw [List.getElem?_eq_none (by omega)]; rfl
      omega
theorem open_eq {b : Bog} {h : List Int} (hb : Ok b) (ho : okL b h = true) {c : Nat} (hc : c < h.length) : cut_open b h (c : Int) = some (openB b h c) := by
  have ⟨hl, hx⟩ := okL_iff.1 ho
  have h6 := hb.n6
  have hd := hb.d4
  have hg := hx _ (gi_mem hc)
  unfold cut_open openB
  rw [bnd_eq (Clone_eq (by omega)), ix_nat (gi_at hc), gd_pos (by omega), ix_nat (gi_at hc)]
  have hset : (h.set (Int.toNat (c : Int)) (gi h c + 1)) = bump h c := rfl
  rw [hset, ix_nat (x := gi h c + 1) (by unfold bump; rw [List.getElem?_set_self hc]), bnd_eq (depth_eq hb.n1)]
  by_cases h1 : gi h c + 1 ≤ dep b
  · rw [if_pos h1, bnd_eq (right_eq (by simp [bump]; omega) (bump_mem hb ho c))]; simp [h1]
  · rw [if_neg h1]; simp [h1]
def opens (b : Bog) (h : List Int) : Nat → List Int
  | 0 => []
  | c + 1 => if openB b h c = true then opens b h c ++ [(c : Int)] else opens b h c
theorem opens_len (b : Bog) (h : List Int) : ∀ c, (opens b h c).length ≤ c
  | 0 => by simp [opens]
  | c + 1 => by
    have := opens_len b h c
    unfold opens
    split
    · simp; omega
    · omega
theorem opens_mem {b : Bog} {h : List Int} : ∀ (n : Nat) (x : Int), x ∈ opens b h n ↔ ∃ c : Nat, c < n ∧ x = (c : Int) ∧ openB b h c = true
  | 0, x => by simp [opens]
  | n + 1, x => by
    unfold opens
    have ih := opens_mem (b := b) (h := h) n x
    split
    · rename_i ho
      rw [List.mem_append, ih]
      constructor
      · rintro (⟨c, h1, h2, h3⟩ | h1)
        · exact ⟨c, by omega, h2, h3⟩
        · exact ⟨n, by omega, by simpa using h1, ho⟩
      · rintro ⟨c, h1, h2, h3⟩
        by_cases hc : c = n
        · right; subst hc; simp [h2]
        · left; exact ⟨c, by omega, h2, h3⟩
    · rename_i ho
      rw [ih]
      constructor
      · rintro ⟨c, h1, h2, h3⟩; exact ⟨c, by omega, h2, h3⟩
      · rintro ⟨c, h1, h2, h3⟩
        by_cases hc : c = n
        · subst hc; exact absurd h3 ho
        · exact ⟨c, by omega, h2, h3⟩
def openR (b : Bog) (h : List Int) : List Int × Int := if hollowE b h = 0 then (opens b h h.length, 0) else ([], hollowE b h)
theorem Open_eq {b : Bog} {h : List Int} (hs : Short b) (hl : h.length ≤ 1000000) : cut_Open b h = some (openR b h) := by
  unfold cut_Open openR
  rw [bnd_eq (CheckHollow_eq hs hl)]
  by_cases h0 : hollowE b h = 0
  · have ⟨hb, ho, _⟩ := hollow0.1 h0
    have ⟨hln, hx⟩ := okL_iff.1 ho
    have h6 := hb.n6
    rw [if_pos h0, if_pos h0]
    refine Eq.trans (for0 h.length (opens b h) (fun n s i => cut_Open_L1 b h n i s) (some (opens b h h.length, 0)) rfl (fun n i hi => ?_) (fun n => ?_) (by omega)) rfl
    · have := opens_len b h i
      show cut_Open_B1 b h (cut_Open_L1 b h n) _ _ = _
      unfold cut_Open_B1
      rw [if_pos (by omega), bnd_eq (open_eq hb ho hi)]
      unfold cut_Open_k2
      by_cases hop : openB b h i = true
      · rw [if_pos hop, gd_pos (by simp; omega), gd_pos (by omega)]; simp only [opens, hop, if_true]; rfl
      · rw [if_neg hop, gd_pos (by omega)]; simp only [opens, hop]; rfl
    · show cut_Open_B1 b h (cut_Open_L1 b h n) _ _ = _
      unfold cut_Open_B1
      rw [if_neg (by omega)]; rfl
  · rw [if_neg h0, if_neg h0]
theorem ropen_eq {b : Bog} {h : List Int} (hb : Ok b) (ho : okL b h = true) : ref04_open b h = some (opens b h h.length) := by
  have ⟨hln, hx⟩ := okL_iff.1 ho
  have h6 := hb.n6
  have hd := hb.d4
  unfold ref04_open
  refine Eq.trans (for0 h.length (opens b h) (fun n s i => ref04_open_L1 b h n i s) (some (opens b h h.length)) rfl (fun n i hi => ?_) (fun n => ?_) (by omega)) rfl
  · have hol := opens_len b h i
    have hg := hx _ (gi_mem hi)
    show ref04_open_B1 b h (ref04_open_L1 b h n) _ _ = _
    unfold ref04_open_B1
    rw [if_pos (by omega), gd_pos (by simp; omega), List.nil_append, ix_nat (gi_at hi), gd_pos (by omega), ix_nat (gi_at hi)]
    have hset : (h.set (Int.toNat (i : Int)) (gi h i + 1)) = bump h i := rfl
    rw [hset, ix_nat (x := gi h i + 1) (by unfold bump; rw [List.getElem?_set_self hi]), bnd_eq (rdepth_eq hb.n1)]
    unfold ref04_open_k3 ref04_open_k2
    have hopn : openB b h i = (decide (gi h i + 1 ≤ dep b) && rightB (bump h i)) := rfl
    by_cases h1 : gi h i + 1 ≤ dep b
    · rw [if_pos h1, bnd_eq (rright_eq (by simp [bump]; omega) (bump_mem hb ho i))]
      simp only [h1, decide_true, Bool.true_and] at hopn
      rw [← hopn]
      by_cases hop : openB b h i = true
      · rw [if_pos hop, gd_pos (by simp; omega), gd_pos (by omega)]; simp only [opens, hop, if_true]; rfl
      · rw [if_neg hop, gd_pos (by omega)]; simp only [opens, hop]; rfl
    · rw [if_neg h1]
      simp only [h1, decide_false, Bool.false_and] at hopn
      rw [if_neg (by simp), gd_pos (by omega)]; simp only [opens, hopn]; rfl
  · show ref04_open_B1 b h (ref04_open_L1 b h n) _ _ = _
    unfold ref04_open_B1
    rw [if_neg (by omega)]; rfl
theorem rOpen_eq {b : Bog} {h : List Int} (hs : Short b) (hl : h.length ≤ 1000000) : ref04_Open b h = some (openR b h) := by
  unfold ref04_Open openR
  rw [bnd_eq (rCheckHollow_eq hs hl)]
  by_cases h0 : hollowE b h = 0
  · have ⟨hb, ho, _⟩ := hollow0.1 h0
    rw [if_pos h0, if_pos h0, bnd_eq (ropen_eq hb ho)]
  · rw [if_neg h0, if_neg h0]
theorem SameInts_self {l : List Int} (hl : l.length ≤ 1000000) : ref04_SameInts l l = some true := by
  unfold ref04_SameInts
  rw [if_pos rfl, list_loop0 l (fun _ => true) (ref04_SameInts_L1 l l) (some true) (some false) (fun n i x hx => ?_) (fun n => ?_) (by omega)]
  · simp
  · have := lt_of_at hx
    show ref04_SameInts_B1 l l (ref04_SameInts_L1 l l n) _ = _
    unfold ref04_SameInts_B1
    rw [if_pos (by omega), ix_nat hx, ix_nat hx, if_pos rfl, gd_pos (by omega), if_pos rfl]; rfl
  · show ref04_SameInts_B1 l l (ref04_SameInts_L1 l l n) _ = _
    unfold ref04_SameInts_B1
    rw [if_neg (by omega)]; rfl
theorem bump_hollow {b : Bog} {h : List Int} (hb : Ok b) (ho : okL b h = true) {c : Nat} (hc : c < h.length) (hop : openB b h c = true) : hollowE b (bump h c) = 0 := by
  unfold openB at hop
  simp only [Bool.and_eq_true, decide_eq_true_eq] at hop
  refine hollow0.2 ⟨hb, okL_iff.2 ⟨by simp [bump, (okL_iff.1 ho).1], fun x hx => ?_⟩, hop.2⟩
  unfold bump at hx
  rcases List.mem_or_eq_of_mem_set hx with h1 | h1
  · exact (okL_iff.1 ho).2 x h1
  · have := (okL_iff.1 ho).2 _ (gi_mem hc)
    omega
theorem law_CutOpens (b : Bog) (h : List Int) (hb : b.worth.length ≤ 9223372036854775807) : law04_CutOpens b h = some true := by
  unfold law04_CutOpens
  rw [bnd_eq (Long_eq (by simp) hb)]
  cases hL : longB b [h]
  · obtain ⟨hs, h2⟩ := long_short hL
    have hl := h2 h (by simp)
    have hol : (openR b h).1.length ≤ 1000000 := by
      unfold openR
      split
      · have := opens_len b h h.length; simp only; omega
      · simp
    rw [if_neg (by simp), bnd_eq (Open_eq hs (by omega)), bnd_eq (rOpen_eq hs (by omega)), bnd_eq (SameInts_self hol), if_pos rfl]
    unfold law04_CutOpens_k2
    rw [if_neg (by simp), list_loop0 (openR b h).1 (fun _ => true) (law04_CutOpens_L1 b h (openR b h)) (some true) (some false) (fun n i x hx => ?_) (fun n => ?_) (by omega)]
    · simp
    · have hi := lt_of_at hx
      show law04_CutOpens_B1 b h (openR b h) (law04_CutOpens_L1 b h (openR b h) n) _ = _
      unfold law04_CutOpens_B1
      have hm := List.mem_of_getElem? hx
      by_cases h0 : hollowE b h = 0
      · have ⟨hbo, ho, _⟩ := hollow0.1 h0
        have e : (openR b h).1 = opens b h h.length := by unfold openR; rw [if_pos h0]
        rw [e] at hm
        obtain ⟨c, hc, rfl, hop⟩ := (opens_mem _ _).1 hm
        have hg := (okL_iff.1 ho).2 _ (gi_mem hc)
        have hd := hbo.d4
        rw [if_pos (by omega), gd_pos (by simp; omega), ix_nat hx, List.nil_append, ix_nat (gi_at hc), gd_pos (by omega), ix_nat (gi_at hc)]
        have hset : (h.set (Int.toNat (c : Int)) (gi h c + 1)) = bump h c := rfl
        rw [hset, bnd_eq (CheckHollow_eq hs (by simp [bump]; omega)), if_pos (bump_hollow hbo ho hc hop), gd_pos (by omega), if_pos rfl]; rfl
      · have e : (openR b h).1 = [] := by unfold openR; rw [if_neg h0]
        rw [e] at hm; cases hm
    · show law04_CutOpens_B1 b h (openR b h) (law04_CutOpens_L1 b h (openR b h) n) _ = _
      unfold law04_CutOpens_B1
      rw [if_neg (by omega)]
      unfold law04_CutOpens_k1
      rw [bnd_eq sane_eq]
  · rw [if_pos rfl, bnd_eq sane_eq]
end Go.D4

