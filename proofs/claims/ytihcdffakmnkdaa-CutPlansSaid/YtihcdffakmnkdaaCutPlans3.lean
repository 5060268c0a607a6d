/- Lemmas and walks that the proof of this claim uses: D4m5, D4m6D, D4m6, D4m7D, D4m7, D4m8D. -/
import Derived.Test.YtihcdffakmnkdaaCutPlans2
import Derived.Test.YtihcdffakmnkdaaProg
import Derived.KernelRfl
set_option linter.unusedVariables false
set_option linter.unusedSimpArgs false
namespace Go.D4
open Go.Tb Go.Proofs Go.RowKit

theorem Tc17 : callable Try.prog 17 = true := by kernel_rfl
theorem Tc18 : callable Try.prog 18 = true := by kernel_rfl
theorem Tc20 : callable Try.prog 20 = true := by kernel_rfl
theorem Tc27 : callable Try.prog 27 = true := by kernel_rfl
theorem Tc62 : callable Try.prog 62 = true := by kernel_rfl
theorem Tc71 : callable Try.prog 71 = true := by kernel_rfl
theorem Tc72 : callable Try.prog 72 = true := by kernel_rfl

set_option maxRecDepth 20000 in
set_option maxHeartbeats 1000000 in
theorem ref04_CheckHollow_ok {a0 : Bog} {a1 : List Int} {A_a0_worth : Option Addr} {c_a0_worth : Nat} {A_a1 : Option Addr} {c_a1 : Nat} {w : World} {res : Int} (h_a0_worth : Sl2 w A_a0_worth c_a0_worth 1 encN a0.worth) (h_a1 : Sl w A_a1 c_a1 1 (a1.map encN)) (F : ref04_CheckHollow a0 a1 = some res) : Calls Try.prog 27 #[.agg #[.slice A_a0_worth a0.worth.length c_a0_worth], .slice A_a1 a1.length c_a1] w (Rt w (.int .i64 res)) := by
  refine calls_of_cw (args := [.agg #[.slice A_a0_worth a0.worth.length c_a0_worth], .slice A_a1 a1.length c_a1]) Try.func27 rfl rfl rfl rfl ?_
  have H := Hp.start w
  have R0 := H.ext
  unfold ref04_CheckHollow at F
  refine CW.seq fun K1 hK1 => ?_
  refine CW.region ?_
  refine LW.go rfl rfl (OW.box rfl fun b1 w1 N1 => ?_)
  replace H := H.new N1 N1.blk
  replace R0 := H.ext
  refine LW.pure rfl rfl (RV.assign rfl) ?_
  refine LW.nil (hK1 _ _ ?_)
  refine CW.seq fun K2 hK2 => ?_
  obtain ⟨r1, hr1, F⟩ := bnd_some F
  refine CW.region ?_
  refine LW.pure rfl rfl (RV.loadA [.slice A_a0_worth a0.worth.length c_a0_worth] Tk24 rfl (H.blk 0 rfl).cells rfl rfl) ?_
  refine LW.pure rfl rfl (RV.move rfl) ?_
  refine LW.go rfl rfl (OW.call Tc71 rfl (ref04_numbers_ok (a0 := a0) (a1 := a1) (h_a0_worth.ext R0) (h_a1.ext R0) hr1) ?_)
  rintro _ w2 ⟨rfl, E1⟩
  refine ⟨_, rfl, ?_⟩
  replace H := H.grow E1
  replace R0 := H.ext
  refine LW.pure rfl rfl (RV.assign rfl) ?_
  refine LW.nil (hK2 _ _ ?_)
  refine CW.seq fun K3 hK3 => ?_
  refine CW.seq fun K4 hK4 => ?_
  refine CW.region ?_
  refine LW.pure rfl rfl (RV.move rfl) ?_
  refine LW.pure rfl rfl (RV.nei rfl rfl) ?_
  refine LW.nil (hK4 _ _ ?_)
  by_cases hp1 : r1 = 0
  ·
    replace F := ite_y hp1 F
    have hq1 := dec_t hp1
    refine CW.condF rfl (not_f hq1) ?_
    refine CW.skip (hK3 _ _ ?_)
    refine CW.seq fun K5 hK5 => ?_
    refine CW.seq fun K6 hK6 => ?_
    obtain ⟨r2, hr2, F⟩ := bnd_some F
    refine CW.region ?_
    refine LW.pure rfl rfl (RV.move rfl) ?_
    refine LW.go rfl rfl (OW.call Tc72 rfl (ref04_right_ok (a0 := a1) (h_a1.ext R0) hr2) ?_)
    rintro _ w3 ⟨rfl, E2⟩
    refine ⟨_, rfl, ?_⟩
    replace H := H.grow E2
    replace R0 := H.ext
    refine LW.pure rfl rfl (RV.not rfl) ?_
    refine LW.nil (hK6 _ _ ?_)
    by_cases hp2 : r2 = true
    ·
      replace F := ite_y hp2 F
      have hq2 : r2 = true := hp2
      refine CW.condF rfl (not_f hq2) ?_
      refine CW.skip (hK5 _ _ ?_)
      refine CW.seq fun K7 hK7 => ?_
      refine CW.region ?_
      refine LW.pure rfl rfl (RV.assign rfl) ?_
      refine LW.nil (hK7 _ _ ?_)
      refine CW.ret ?_
      obtain rfl := Option.some.inj F
      refine ⟨_, (ResOK.one rfl), ?_⟩
      refine ⟨(by first | rfl | simp), R0⟩
    ·
      replace F := ite_n hp2 F
      have hq2 : r2 = false := raw_f hp2
      refine CW.condT rfl (not_t hq2) ?_
      refine CW.seq fun K8 hK8 => ?_
      refine CW.region ?_
      refine LW.pure rfl rfl (RV.assign rfl) ?_
      refine LW.nil (hK8 _ _ ?_)
      refine CW.ret ?_
      obtain rfl := Option.some.inj F
      refine ⟨_, (ResOK.one rfl), ?_⟩
      refine ⟨(by first | rfl | simp), R0⟩
  ·
    replace F := ite_n hp1 F
    have hq1 := dec_f hp1
    refine CW.condT rfl (not_t hq1) ?_
    refine CW.seq fun K9 hK9 => ?_
    refine CW.region ?_
    refine LW.pure rfl rfl (RV.move rfl) ?_
    refine LW.pure rfl rfl (RV.assign rfl) ?_
    refine LW.nil (hK9 _ _ ?_)
    refine CW.ret ?_
    obtain rfl := Option.some.inj F
    refine ⟨_, (ResOK.one rfl), ?_⟩
    refine ⟨(by first | rfl | simp), R0⟩

set_option maxRecDepth 20000 in
set_option maxHeartbeats 1000000 in
theorem ref04_open_ok {a0 : Bog} {a1 : List Int} {A_a0_worth : Option Addr} {c_a0_worth : Nat} {A_a1 : Option Addr} {c_a1 : Nat} {w : World} {res : (List Int)} (h_a0_worth : Sl2 w A_a0_worth c_a0_worth 1 encN a0.worth) (h_a1 : Sl w A_a1 c_a1 1 (a1.map encN)) (F : ref04_open a0 a1 = some res) : Calls Try.prog 62 #[.agg #[.slice A_a0_worth a0.worth.length c_a0_worth], .slice A_a1 a1.length c_a1] w (fun e w' => ∃ (A1 : Option Addr) (c1 : Nat), e = .returned (.slice A1 res.length c1) ∧ Hp w w' [.own A1 c1 3 1 (List.map encN res)]) := by
  refine calls_of_cw (args := [.agg #[.slice A_a0_worth a0.worth.length c_a0_worth], .slice A_a1 a1.length c_a1]) Try.func62 rfl rfl rfl rfl ?_
  have H := Hp.start w
  have R0 := H.ext
  unfold ref04_open at F
  refine CW.seq fun K1 hK1 => ?_
  refine CW.region ?_
  refine LW.go rfl rfl (OW.box rfl fun b1 w1 N1 => ?_)
  replace H := H.new N1 N1.blk
  replace R0 := H.ext
  refine LW.pure rfl rfl (RV.assign rfl) ?_
  refine LW.nil (hK1 _ _ ?_)
  refine CW.seq fun K2 hK2 => ?_
  refine CW.region ?_
  refine LW.pure rfl rfl (RV.assign rfl) ?_
  refine LW.nil (hK2 _ _ ?_)
  refine CW.seqJ (fun ρ wl1 => (∃ (l1 : List Int) (Al1 : Option Addr) (cl1 : Nat), ref04_open_k1 l1 = some res ∧ ρ = [(4, .slice none 0 0), (5, .slice Al1 l1.length cl1)] ∧ Hp w wl1 [.own Al1 cl1 3 1 (List.map encN l1)])) ?_ ?_
  ·
    rintro _ wl1 ⟨l1, Al1, cl1, F, rfl, H⟩
    have R0 := H.ext
    unfold ref04_open_k1 at F
    refine CW.seq fun K3 hK3 => ?_
    refine CW.region ?_
    refine LW.pure rfl rfl (RV.move rfl) ?_
    refine LW.pure rfl rfl (RV.assign rfl) ?_
    refine LW.nil (hK3 _ _ ?_)
    refine CW.ret ?_
    obtain rfl := Option.some.inj F
    refine ⟨_, (ResOK.one rfl), ?_⟩
    exact ⟨Al1, cl1, (by first | rfl | (simp; done) | (simp; omega)), H⟩
  ·
    intro K4 hK4 jK92
    refine CW.seq fun K5 hK5 => ?_
    refine CW.region ?_
    refine LW.pure rfl rfl (RV.assign rfl) ?_
    refine LW.nil (hK5 _ _ ?_)
    refine CW.block ?_
    replace H := H.nilOwn 3 1
    replace R0 := H.ext
    refine CW.loop (fun meas ρ wl2 => ∃ (t6_1 : Int) (l3 : List Int) (Al3 : Option Addr) (cl3 : Nat), ref04_open_L1 a0 a1 meas t6_1 l3 = some res ∧ ρ = [(1, .slice A_a1 a1.length c_a1), (2, .pointer (some (⟨b1, 0, none⟩))), (4, .slice none 0 0), (5, .slice Al3 l3.length cl3), (6, .int .i64 t6_1)] ∧ Hp w wl2 [.own Al3 cl3 3 1 (List.map encN l3), .blk b1 24 [.slice A_a0_worth a0.worth.length c_a0_worth]]) FU ⟨_, ?_, ((0 : Int)), (([] : List Int)), none, 0, F, rfl, H⟩ ?_
    · exact ⟨rfl, rfl, rfl, (look_slice rfl (by first | rfl | (simp; done) | (simp; omega))), rfl, trivial⟩
    rintro mk1 _ wl2 ⟨t6_1, l3, Al3, cl3, F, rfl, H⟩
    have R0 := H.ext
    replace F := ref04_open_L1_s F
    obtain ⟨mk1, rfl, F⟩ := F
    generalize hrec1 : ref04_open_L1 a0 a1 mk1 = rec1 at F
    unfold ref04_open_B1 at F
    refine CW.seq fun K6 hK6 => ?_
    refine CW.seq fun K7 hK7 => ?_
    refine CW.region ?_
    refine LW.pure rfl rfl (RV.move rfl) ?_
    refine LW.pure rfl rfl (RV.move rfl) ?_
    refine LW.pure rfl rfl (RV.len Ts25 rfl) ?_
    refine LW.pure rfl rfl (RV.lss rfl rfl) ?_
    refine LW.nil (hK7 _ _ ?_)
    by_cases hp1 : t6_1 < ((a1.length : Int))
    ·
      replace F := ite_y hp1 F
      have hq1 := dec_t hp1
      refine CW.condT rfl hq1 ?_
      refine CW.skip (hK6 _ _ ?_)
      refine CW.seqJ (fun ρ wl3 => (∃ (l2 : List Int) (Al2 : Option Addr) (cl2 : Nat), ref04_open_k2 t6_1 rec1 l2 = some res ∧ ρ = [(1, .slice A_a1 a1.length c_a1), (2, .pointer (some (⟨b1, 0, none⟩))), (4, .slice none 0 0), (5, .slice Al2 l2.length cl2), (6, .int .i64 t6_1)] ∧ Hp w wl3 [.own Al2 cl2 3 1 (List.map encN l2), .blk b1 24 [.slice A_a0_worth a0.worth.length c_a0_worth]])) ?_ ?_
      ·
        rintro _ wl3 ⟨l2, Al2, cl2, F, rfl, H⟩
        have R0 := H.ext
        unfold ref04_open_k2 at F
        obtain ⟨hg1, F⟩ := gd_some F
        refine CW.region ?_
        refine LW.pure rfl rfl (RV.move rfl) ?_
        refine LW.pure rfl rfl (RV.add rfl rfl hg1) ?_
        refine LW.pure rfl rfl (RV.assign rfl) ?_
        refine LW.nil ?_
        subst hrec1
        refine ⟨mk1, Nat.lt_succ_self _, _, ?_, (t6_1 + 1), l2, Al2, cl2, F, rfl, H⟩
        exact ⟨rfl, rfl, rfl, (look_slice rfl (by first | rfl | (simp; done) | (simp; omega))), rfl, trivial⟩
      ·
        intro K8 hK8 jK117
        refine CW.block ?_
        refine CW.seq fun K9 hK9 => ?_
        obtain ⟨hg2, F⟩ := gd_some F
        refine CW.region ?_
        refine LW.go rfl rfl (OW.buildSlice (e := 3) (vs := []) (cs := []) rfl (fun _ => by kernel_rfl) fun b2 w2 N2 => ?_)
        replace H := H.made' (k := 1) (t := 3) (enc := encN) (l := ([] : List Int)) N2 N2.blk (fun _ => rfl) rfl (by first | decide | omega | (simp; done) | (simp; omega))
        replace R0 := H.ext
        refine LW.pure rfl rfl (RV.move rfl) ?_
        refine LW.go rfl rfl (OW.appendG (enc := encN) (l := ([] : List Int)) (xs := a1) Ts25 (look_slice rfl (by first | rfl | (simp; done) | (simp; omega))) rfl (H.own 0 rfl) (h_a1.ext R0) (fun _ => rfl) rfl rfl hg2 (by decide) fun A2 c2 w3 O1 M1 D1 => ?_)
        replace H : Hp w w3 [.own A2 c2 3 1 (List.map encN ((([] : List Int) ++ a1))), .own Al3 cl3 3 1 (List.map encN l3), .blk b1 24 [.slice A_a0_worth a0.worth.length c_a0_worth]] := H.mod 0 rfl M1 O1 D1
        replace R0 := H.ext
        refine LW.pure rfl rfl (RV.assign rfl) ?_
        refine LW.nil (hK9 _ _ ?_)
        refine CW.seq fun K10 hK10 => ?_
        obtain ⟨x1, hbx1, hx1, F⟩ := ix_some F
        obtain ⟨hg3, F⟩ := gd_some F
        obtain ⟨x2, hbx2, hx2, F⟩ := ix_some F
        refine CW.region ?_
        refine LW.pure rfl rfl (RV.move rfl) ?_
        refine LW.pure rfl rfl (RV.move rfl) ?_
        refine LW.pure rfl rfl (RV.indexAddr Ts25 rfl rfl hbx1 ((H.own 0 rfl).sl.addr_ hx1)) ?_
        refine LW.pure rfl rfl (RV.load1 Tk3 rfl ((H.own 0 rfl).sl.at_ hx1) rfl) ?_
        refine LW.pure rfl rfl (RV.add rfl rfl hg3) ?_
        refine LW.pure rfl rfl (RV.indexAddr Ts25 rfl rfl hbx2 ((H.own 0 rfl).sl.addr_ hx2)) ?_
        refine LW.go rfl rfl (OW.storeO (enc := encN) (vs := [.int .i64 (x1 + 1)]) 0 (x1 + 1) Tk3 rfl rfl (H.own 0 rfl) (fun _ => rfl) rfl hx2 rfl rfl (by decide) rfl rfl fun w4 M2 O2 => ?_)
        replace H : Hp w w4 [.own A2 c2 3 1 (List.map encN ((((([] : List Int) ++ a1)).set (Int.toNat t6_1) (x1 + 1)))), .own Al3 cl3 3 1 (List.map encN l3), .blk b1 24 [.slice A_a0_worth a0.worth.length c_a0_worth]] := H.mod 0 rfl M2 O2 (.inl rfl)
        replace R0 := H.ext
        refine LW.nil (hK10 _ _ ?_)
        refine CW.seqJ (fun ρ wl4 => (∃ (t33_1 : Bool), ref04_open_k3 t6_1 l3 rec1 t33_1 = some res ∧ ρ = [(1, .slice A_a1 a1.length c_a1), (2, .pointer (some (⟨b1, 0, none⟩))), (4, .slice none 0 0), (5, .slice Al3 l3.length cl3), (6, .int .i64 t6_1), (33, .bool t33_1)] ∧ Hp w wl4 [.own Al3 cl3 3 1 (List.map encN l3), .blk b1 24 [.slice A_a0_worth a0.worth.length c_a0_worth]])) ?_ ?_
        ·
          rintro _ wl4 ⟨t33_1, F, rfl, H⟩
          have R0 := H.ext
          unfold ref04_open_k3 at F
          by_cases hp2 : t33_1 = true
          ·
            replace F := ite_y hp2 F
            have hq2 : t33_1 = true := hp2
            refine CW.condT rfl hq2 ?_
            obtain ⟨hg4, F⟩ := gd_some F
            refine CW.region ?_
            refine LW.pure rfl rfl (RV.move rfl) ?_
            refine LW.pure rfl rfl (RV.move rfl) ?_
            refine LW.go rfl rfl (OW.buildSlice (e := 3) (vs := [.int .i64 t6_1]) (cs := [.int .i64 t6_1]) rfl (fun _ => by kernel_rfl) fun b3 w5 N3 => ?_)
            replace H := H.made' (k := 1) (t := 3) (enc := encN) (l := ([t6_1] : List Int)) N3 N3.blk (fun _ => rfl) rfl (by first | decide | omega | (simp; done) | (simp; omega))
            replace R0 := H.ext
            refine LW.go rfl rfl (OW.appendG (enc := encN) (l := l3) (xs := ([t6_1] : List Int)) Ts25 rfl (look_slice rfl (by first | rfl | (simp; done) | (simp; omega))) (H.own 1 rfl) (H.own 0 rfl).sl (fun _ => rfl) rfl rfl hg4 (by decide) fun A3 c3 w6 O3 M3 D2 => ?_)
            replace H : Hp w w6 [.own (some ⟨b3, 0, none⟩) ((([t6_1] : List Int)).length) 3 1 (List.map encN (([t6_1] : List Int))), .own A3 c3 3 1 (List.map encN ((l3 ++ ([t6_1] : List Int)))), .blk b1 24 [.slice A_a0_worth a0.worth.length c_a0_worth]] := H.mod 1 rfl M3 O3 D2
            replace R0 := H.ext
            refine LW.pure rfl rfl (RV.assign rfl) ?_
            replace H := H.pick (L' := [.own A3 c3 3 1 (List.map encN ((l3 ++ ([t6_1] : List Int)))), .blk b1 24 [.slice A_a0_worth a0.worth.length c_a0_worth]]) [1, 2] (by decide) rfl
            replace R0 := H.ext
            refine LW.nil (jK117 _ _ ⟨_, ?_, ⟨((l3 ++ ([t6_1] : List Int))), A3, c3, F, rfl, H⟩⟩)
            exact ⟨rfl, rfl, rfl, (look_slice rfl (by first | rfl | (simp; done) | (simp; omega))), rfl, trivial⟩
          ·
            replace F := ite_n hp2 F
            have hq2 : t33_1 = false := raw_f hp2
            refine CW.condF rfl hq2 ?_
            refine CW.skip (jK117 _ _ ⟨_, ?_, ⟨l3, Al3, cl3, F, rfl, H⟩⟩)
            exact ⟨rfl, rfl, rfl, (look_slice rfl (by first | rfl | (simp; done) | (simp; omega))), rfl, trivial⟩
        ·
          intro K11 hK11 jK120
          obtain ⟨x3, hbx3, hx3, F⟩ := ix_some F
          obtain ⟨r1, hr1, F⟩ := bnd_some F
          by_cases hp3 : x3 ≤ r1
          ·
            replace F := ite_y hp3 F
            have hq3 := dec_t hp3
            obtain ⟨r2, hr2, F⟩ := bnd_some F
            refine CW.draw [] (fun _ => True) (.cons 0 1 (.cons 1 1 (.cons 2 1 (.cons 3 1 (.cons 4 1 (.cons 5 0 (.cons 6 1 (.cons 7 1 (.cons 8 1 (.cons 9 0 (.cons 10 1 .nil))))))))))) mixed (by kernel_rfl) fun w7 E1 => ?_
            replace H := H.grow E1
            replace R0 := H.ext
            refine DW.fix rfl rfl rfl (fun _ EQ => RV.move rfl) ?_
            refine DW.fix rfl rfl rfl (fun _ EQ => RV.move rfl) ?_
            refine DW.fix rfl rfl rfl (fun _ EQ => RV.indexAddr Ts25 rfl rfl (by first | exact hbx3 | (simp at hbx3 ⊢; omega)) ((H.own 0 rfl).sl.addr_ hx3)) ?_
            refine DW.fix rfl rfl rfl (fun _ EQ => RV.load1 Tk3 rfl (((H.grow EQ).own 0 rfl).sl.at_ hx3) rfl) ?_
            refine DW.fix rfl rfl rfl (fun _ EQ => RV.loadA [.slice A_a0_worth a0.worth.length c_a0_worth] Tk24 rfl ((H.grow EQ).blk 2 rfl).cells rfl rfl) ?_
            refine DW.sole rfl rfl rfl (OW.call Tc93 rfl (ref04_depth_ok (a0 := a0) (h_a0_worth.ext R0) hr1) ?_)
            rintro _ w8 ⟨rfl, E2⟩
            refine ⟨_, rfl, fun _ => E2, ModX.ext E2, ?_⟩
            replace H := H.grow E2
            replace R0 := H.ext
            refine DW.fix rfl rfl rfl (fun _ EQ => RV.leq rfl rfl) ?_
            refine DW.fix rfl rfl rfl (fun _ EQ => RV.move rfl) ?_
            refine DW.fixYB rfl rfl rfl rfl rfl hq3 (fun _ EQ => RV.move rfl) ?_
            refine DW.soleYB rfl rfl rfl rfl rfl hq3 (OW.call Tc72 (evs_cast rfl (by first | rfl | (simp; done) | (simp; omega))) (ref04_right_ok (a0 := (((([] : List Int) ++ a1)).set (Int.toNat t6_1) (x1 + 1))) (H.own 0 rfl).sl hr2) ?_)
            rintro _ w9 ⟨rfl, E3⟩
            refine ⟨_, rfl, fun _ => E3, ModX.ext E3, ?_⟩
            replace H := H.grow E3
            replace R0 := H.ext
            refine DW.fix rfl rfl rfl (fun _ EQ => RV.pickTB rfl hq3 rfl) ?_
            replace H := H.pick (L' := [.own Al3 cl3 3 1 (List.map encN l3), .blk b1 24 [.slice A_a0_worth a0.worth.length c_a0_worth]]) [1, 2] (by decide) rfl
            replace R0 := H.ext
            refine DW.nil (jK120 _ _ ⟨_, ?_, ⟨r2, F, rfl, H⟩⟩)
            exact ⟨rfl, rfl, rfl, (look_slice rfl (by first | rfl | (simp; done) | (simp; omega))), rfl, rfl, trivial⟩
          ·
            replace F := ite_n hp3 F
            have hq3 := dec_f hp3
            refine CW.draw [] (fun _ => True) (.cons 0 1 (.cons 1 1 (.cons 2 1 (.cons 3 1 (.cons 4 1 (.cons 5 0 (.cons 6 1 (.cons 7 1 (.cons 8 1 (.cons 9 0 (.cons 10 1 .nil))))))))))) mixed (by kernel_rfl) fun w10 E4 => ?_
            replace H := H.grow E4
            replace R0 := H.ext
            refine DW.fix rfl rfl rfl (fun _ EQ => RV.move rfl) ?_
            refine DW.fix rfl rfl rfl (fun _ EQ => RV.move rfl) ?_
            refine DW.fix rfl rfl rfl (fun _ EQ => RV.indexAddr Ts25 rfl rfl (by first | exact hbx3 | (simp at hbx3 ⊢; omega)) ((H.own 0 rfl).sl.addr_ hx3)) ?_
            refine DW.fix rfl rfl rfl (fun _ EQ => RV.load1 Tk3 rfl (((H.grow EQ).own 0 rfl).sl.at_ hx3) rfl) ?_
            refine DW.fix rfl rfl rfl (fun _ EQ => RV.loadA [.slice A_a0_worth a0.worth.length c_a0_worth] Tk24 rfl ((H.grow EQ).blk 2 rfl).cells rfl rfl) ?_
            refine DW.sole rfl rfl rfl (OW.call Tc93 rfl (ref04_depth_ok (a0 := a0) (h_a0_worth.ext R0) hr1) ?_)
            rintro _ w11 ⟨rfl, E5⟩
            refine ⟨_, rfl, fun _ => E5, ModX.ext E5, ?_⟩
            replace H := H.grow E5
            replace R0 := H.ext
            refine DW.fix rfl rfl rfl (fun _ EQ => RV.leq rfl rfl) ?_
            refine DW.fix rfl rfl rfl (fun _ EQ => RV.move rfl) ?_
            refine DW.fixNB rfl rfl rfl rfl rfl (ne_beq (v := false) hq3 rfl) ?_
            refine DW.soleNB rfl rfl rfl rfl rfl (ne_beq (v := false) hq3 rfl) ?_
            refine DW.fix rfl rfl rfl (fun _ EQ => RV.pickFB rfl hq3 rfl) ?_
            replace H := H.pick (L' := [.own Al3 cl3 3 1 (List.map encN l3), .blk b1 24 [.slice A_a0_worth a0.worth.length c_a0_worth]]) [1, 2] (by decide) rfl
            replace R0 := H.ext
            refine DW.nil (jK120 _ _ ⟨_, ?_, ⟨false, F, rfl, H⟩⟩)
            exact ⟨rfl, rfl, rfl, (look_slice rfl (by first | rfl | (simp; done) | (simp; omega))), rfl, rfl, trivial⟩
    ·
      replace F := ite_n hp1 F
      have hq1 := dec_f hp1
      refine CW.condF rfl hq1 ?_
      replace H := H.pick (L' := [.own Al3 cl3 3 1 (List.map encN l3)]) [0] (by decide) rfl
      replace R0 := H.ext
      refine CW.exit (jK92 _ _ ⟨_, ?_, ⟨l3, Al3, cl3, F, rfl, H⟩⟩)
      exact ⟨rfl, (look_slice rfl (by first | rfl | (simp; done) | (simp; omega))), trivial⟩

set_option maxRecDepth 20000 in
set_option maxHeartbeats 1000000 in
theorem ref04_Open_ok {a0 : Bog} {a1 : List Int} {A_a0_worth : Option Addr} {c_a0_worth : Nat} {A_a1 : Option Addr} {c_a1 : Nat} {w : World} {res : (List Int) × Int} (h_a0_worth : Sl2 w A_a0_worth c_a0_worth 1 encN a0.worth) (h_a1 : Sl w A_a1 c_a1 1 (a1.map encN)) (F : ref04_Open a0 a1 = some res) : Calls Try.prog 20 #[.agg #[.slice A_a0_worth a0.worth.length c_a0_worth], .slice A_a1 a1.length c_a1] w (fun e w' => ∃ (A0 : Option Addr) (c0 : Nat), e = .returned (.tuple #[.slice A0 res.1.length c0, .int .i64 res.2]) ∧ Hp w w' [.own A0 c0 3 1 (List.map encN res.1)]) := by
  refine calls_of_cw (args := [.agg #[.slice A_a0_worth a0.worth.length c_a0_worth], .slice A_a1 a1.length c_a1]) Try.func20 rfl rfl rfl rfl ?_
  have H := Hp.start w
  have R0 := H.ext
  unfold ref04_Open at F
  refine CW.seq fun K1 hK1 => ?_
  refine CW.region ?_
  refine LW.go rfl rfl (OW.box rfl fun b1 w1 N1 => ?_)
  replace H := H.new N1 N1.blk
  replace R0 := H.ext
  refine LW.pure rfl rfl (RV.assign rfl) ?_
  refine LW.pure rfl rfl (RV.assign rfl) ?_
  refine LW.nil (hK1 _ _ ?_)
  refine CW.seq fun K2 hK2 => ?_
  obtain ⟨r1, hr1, F⟩ := bnd_some F
  refine CW.region ?_
  refine LW.pure rfl rfl (RV.loadA [.slice A_a0_worth a0.worth.length c_a0_worth] Tk24 rfl (H.blk 0 rfl).cells rfl rfl) ?_
  refine LW.pure rfl rfl (RV.move rfl) ?_
  refine LW.go rfl rfl (OW.call Tc27 rfl (ref04_CheckHollow_ok (a0 := a0) (a1 := a1) (h_a0_worth.ext R0) (h_a1.ext R0) hr1) ?_)
  rintro _ w2 ⟨rfl, E1⟩
  refine ⟨_, rfl, ?_⟩
  replace H := H.grow E1
  replace R0 := H.ext
  refine LW.pure rfl rfl (RV.assign rfl) ?_
  refine LW.nil (hK2 _ _ ?_)
  refine CW.seq fun K3 hK3 => ?_
  refine CW.seq fun K4 hK4 => ?_
  refine CW.region ?_
  refine LW.pure rfl rfl (RV.move rfl) ?_
  refine LW.pure rfl rfl (RV.nei rfl rfl) ?_
  refine LW.nil (hK4 _ _ ?_)
  by_cases hp1 : r1 = 0
  ·
    replace F := ite_y hp1 F
    have hq1 := dec_t hp1
    refine CW.condF rfl (not_f hq1) ?_
    refine CW.skip (hK3 _ _ ?_)
    refine CW.seq fun K5 hK5 => ?_
    obtain ⟨r2, hr2, F⟩ := bnd_some F
    refine CW.region ?_
    refine LW.pure rfl rfl (RV.loadA [.slice A_a0_worth a0.worth.length c_a0_worth] Tk24 rfl (H.blk 0 rfl).cells rfl rfl) ?_
    refine LW.pure rfl rfl (RV.move rfl) ?_
    refine LW.go rfl rfl (OW.call Tc62 rfl (ref04_open_ok (a0 := a0) (a1 := a1) (h_a0_worth.ext R0) (h_a1.ext R0) hr2) ?_)
    rintro _ w3 ⟨A6_0, c6_0, rfl, E2⟩
    refine ⟨_, rfl, ?_⟩
    replace H : Hp w w3 [.own A6_0 c6_0 3 1 (List.map encN r2), .blk b1 24 [.slice A_a0_worth a0.worth.length c_a0_worth]] := H.append E2
    replace R0 := H.ext
    refine LW.pure rfl rfl (RV.assign rfl) ?_
    refine LW.pure rfl rfl (RV.assign rfl) ?_
    refine LW.nil (hK5 _ _ ?_)
    refine CW.ret ?_
    obtain rfl := Option.some.inj F
    refine ⟨_, (ResOK.two rfl rfl), ?_⟩
    replace H := H.pick (L' := [.own A6_0 c6_0 3 1 (List.map encN r2)]) [0] (by decide) rfl
    replace R0 := H.ext
    exact ⟨A6_0, c6_0, (by first | rfl | (simp; done) | (simp; omega)), H⟩
  ·
    replace F := ite_n hp1 F
    have hq1 := dec_f hp1
    refine CW.condT rfl (not_t hq1) ?_
    refine CW.seq fun K6 hK6 => ?_
    refine CW.region ?_
    refine LW.pure rfl rfl (RV.move rfl) ?_
    refine LW.pure rfl rfl (RV.assign rfl) ?_
    refine LW.pure rfl rfl (RV.assign rfl) ?_
    refine LW.nil (hK6 _ _ ?_)
    refine CW.ret ?_
    obtain rfl := Option.some.inj F
    refine ⟨_, (ResOK.two rfl rfl), ?_⟩
    replace H := H.nilOwn 3 1
    replace R0 := H.ext
    replace H := H.pick (L' := [.own none 0 3 1 (List.map encN (([] : List Int)))]) [0] (by decide) rfl
    replace R0 := H.ext
    exact ⟨none, 0, (by first | rfl | (simp; done) | (simp; omega)), H⟩

set_option maxRecDepth 20000 in
set_option maxHeartbeats 1000000 in
theorem law04_CutOpens_ok {a0 : Bog} {a1 : List Int} {A_a0_worth : Option Addr} {c_a0_worth : Nat} {A_a1 : Option Addr} {c_a1 : Nat} {w : World} {res : Bool} (h_a0_worth : Sl2 w A_a0_worth c_a0_worth 1 encN a0.worth) (h_a1 : Sl w A_a1 c_a1 1 (a1.map encN)) (F : law04_CutOpens a0 a1 = some res) : Calls Try.prog 3 #[.agg #[.slice A_a0_worth a0.worth.length c_a0_worth], .slice A_a1 a1.length c_a1] w (Rt w (.bool res)) := by
  refine calls_of_cw (args := [.agg #[.slice A_a0_worth a0.worth.length c_a0_worth], .slice A_a1 a1.length c_a1]) Try.func3 rfl rfl rfl rfl ?_
  have H := Hp.start w
  have R0 := H.ext
  unfold law04_CutOpens at F
  refine CW.seq fun K1 hK1 => ?_
  refine CW.region ?_
  refine LW.go rfl rfl (OW.box rfl fun b1 w1 N1 => ?_)
  replace H := H.new N1 N1.blk
  replace R0 := H.ext
  refine LW.pure rfl rfl (RV.assign rfl) ?_
  refine LW.nil (hK1 _ _ ?_)
  refine CW.seq fun K2 hK2 => ?_
  refine CW.seq fun K3 hK3 => ?_
  obtain ⟨r4, hr4, F⟩ := bnd_some F
  refine CW.region ?_
  refine LW.pure rfl rfl (RV.loadA [.slice A_a0_worth a0.worth.length c_a0_worth] Tk24 rfl (H.blk 0 rfl).cells rfl rfl) ?_
  refine LW.pure rfl rfl (RV.move rfl) ?_
  refine LW.go rfl rfl (OW.buildSlice (e := 25) (vs := [.slice A_a1 a1.length c_a1]) (cs := [.slice A_a1 a1.length c_a1]) rfl (fun _ => by kernel_rfl) fun b2 w2 N2 => ?_)
  replace H := H.made' (k := 1) (t := 25) (enc := encH) (l := ([((A_a1, c_a1), a1)] : List ((Option Addr × Nat) × List Int))) N2 (by have q := N2.blk; simp only [List.flatMap_cons, List.flatMap_nil, encH, List.length_nil, List.append_nil, List.cons_append, List.nil_append]; first | done | exact q) (fun _ => rfl) rfl (by first | decide | omega | (simp; done) | (simp; omega))
  replace R0 := H.ext
  have hS23 : Sl2 w2 (some ⟨b2, 0, none⟩) 1 1 encN [a1] := Sl2.one (H.own 0 rfl).sl (h_a1.ext R0)
  refine LW.go rfl rfl (OW.call Tc17 (evs_cast rfl (by first | rfl | (simp; done) | (simp; omega))) (law04_Long_ok (a0 := a0) (a1 := ([a1] : List (List Int))) (h_a0_worth.ext R0) hS23 hr4) ?_)
  rintro _ w3 ⟨rfl, E1⟩
  refine ⟨_, rfl, ?_⟩
  have hS23 := hS23.ext E1
  replace H := H.grow E1
  replace R0 := H.ext
  refine LW.nil (hK3 _ _ ?_)
  by_cases hp1 : r4 = true
  ·
    replace F := ite_y hp1 F
    have hq1 : r4 = true := hp1
    refine CW.condT rfl hq1 ?_
    refine CW.seq fun K4 hK4 => ?_
    obtain ⟨r5, hr5, F⟩ := bnd_some F
    refine CW.region ?_
    refine LW.go rfl rfl (OW.call Tc18 rfl (law04_sane_ok hr5) ?_)
    rintro _ w4 ⟨rfl, E2⟩
    refine ⟨_, rfl, ?_⟩
    have hS23 := hS23.ext E2
    replace H := H.grow E2
    replace R0 := H.ext
    refine LW.pure rfl rfl (RV.assign rfl) ?_
    refine LW.nil (hK4 _ _ ?_)
    refine CW.ret ?_
    obtain rfl := Option.some.inj F
    refine ⟨_, (ResOK.one rfl), ?_⟩
    refine ⟨(by first | rfl | simp), R0⟩
  ·
    replace F := ite_n hp1 F
    have hq1 : r4 = false := raw_f hp1
    refine CW.condF rfl hq1 ?_
    refine CW.skip (hK2 _ _ ?_)
    refine CW.seq fun K5 hK5 => ?_
    obtain ⟨r2, hr2, F⟩ := bnd_some F
    refine CW.region ?_
    refine LW.pure rfl rfl (RV.loadA [.slice A_a0_worth a0.worth.length c_a0_worth] Tk24 rfl (H.blk 1 rfl).cells rfl rfl) ?_
    refine LW.pure rfl rfl (RV.move rfl) ?_
    refine LW.go rfl rfl (OW.call Tc19 rfl (cut_Open_ok (a0 := a0) (a1 := a1) (h_a0_worth.ext R0) (h_a1.ext R0) hr2) ?_)
    rintro _ w5 ⟨A19_0, c19_0, rfl, E3⟩
    refine ⟨_, rfl, ?_⟩
    have hS23 := hS23.ext E3.ext
    replace H : Hp w w5 [.own A19_0 c19_0 3 1 (List.map encN r2.1), .own (some ⟨b2, 0, none⟩) ((([((A_a1, c_a1), a1)] : List ((Option Addr × Nat) × List Int))).length) 25 1 (List.map encH (([((A_a1, c_a1), a1)] : List ((Option Addr × Nat) × List Int)))), .blk b1 24 [.slice A_a0_worth a0.worth.length c_a0_worth]] := H.append E3
    replace R0 := H.ext
    refine LW.pure rfl rfl (RV.move rfl) ?_
    refine LW.pure rfl rfl (RV.extract rfl rfl) ?_
    refine LW.pure rfl rfl (RV.extract rfl rfl) ?_
    refine LW.pure rfl rfl (RV.assign rfl) ?_
    refine LW.pure rfl rfl (RV.assign rfl) ?_
    refine LW.nil (hK5 _ _ ?_)
    refine CW.seq fun K6 hK6 => ?_
    obtain ⟨r6, hr6, F⟩ := bnd_some F
    refine CW.region ?_
    refine LW.pure rfl rfl (RV.loadA [.slice A_a0_worth a0.worth.length c_a0_worth] Tk24 rfl (H.blk 2 rfl).cells rfl rfl) ?_
    refine LW.pure rfl rfl (RV.move rfl) ?_
    refine LW.go rfl rfl (OW.call Tc20 rfl (ref04_Open_ok (a0 := a0) (a1 := a1) (h_a0_worth.ext R0) (h_a1.ext R0) hr6) ?_)
    rintro _ w6 ⟨A21_0, c21_0, rfl, E4⟩
    refine ⟨_, rfl, ?_⟩
    have hS23 := hS23.ext E4.ext
    replace H : Hp w w6 [.own A21_0 c21_0 3 1 (List.map encN r6.1), .own A19_0 c19_0 3 1 (List.map encN r2.1), .own (some ⟨b2, 0, none⟩) ((([((A_a1, c_a1), a1)] : List ((Option Addr × Nat) × List Int))).length) 25 1 (List.map encH (([((A_a1, c_a1), a1)] : List ((Option Addr × Nat) × List Int)))), .blk b1 24 [.slice A_a0_worth a0.worth.length c_a0_worth]] := H.append E4
    replace R0 := H.ext
    refine LW.pure rfl rfl (RV.move rfl) ?_
    refine LW.pure rfl rfl (RV.extract rfl rfl) ?_
    refine LW.pure rfl rfl (RV.extract rfl rfl) ?_
    refine LW.pure rfl rfl (RV.assign rfl) ?_
    refine LW.pure rfl rfl (RV.assign rfl) ?_
    refine LW.nil (hK6 _ _ ?_)
    refine CW.seq fun K7 hK7 => ?_
    refine CW.seqJ (fun ρ wl1 => (∃ (t36_1 : Bool), law04_CutOpens_k2 a0 a1 r2 t36_1 = some res ∧ ρ = [(1, .slice A_a1 a1.length c_a1), (2, .pointer (some (⟨b1, 0, none⟩))), (4, .bool false), (5, .slice A19_0 r2.1.length c19_0), (36, .bool t36_1)] ∧ Hp w wl1 [.own A19_0 c19_0 3 1 (List.map encN r2.1), .blk b1 24 [.slice A_a0_worth a0.worth.length c_a0_worth]])) ?_ ?_
    ·
      rintro _ wl1 ⟨t36_1, F, rfl, H⟩
      have R0 := H.ext
      unfold law04_CutOpens_k2 at F
      by_cases hp2 : t36_1 = true
      ·
        replace F := ite_y hp2 F
        have hq2 : t36_1 = true := hp2
        refine CW.condT rfl hq2 ?_
        refine CW.seq fun K8 hK8 => ?_
        refine CW.region ?_
        refine LW.pure rfl rfl (RV.assign rfl) ?_
        refine LW.nil (hK8 _ _ ?_)
        refine CW.ret ?_
        obtain rfl := Option.some.inj F
        refine ⟨_, (ResOK.one rfl), ?_⟩
        refine ⟨(by first | rfl | simp), R0⟩
      ·
        replace F := ite_n hp2 F
        have hq2 : t36_1 = false := raw_f hp2
        refine CW.condF rfl hq2 ?_
        refine CW.skip (hK7 _ _ ?_)
        refine CW.seqJ (fun ρ wl2 => (law04_CutOpens_k1 = some res ∧ ρ = [(4, .bool false)] ∧ Hp w wl2 [])) ?_ ?_
        ·
          rintro _ wl2 ⟨F, rfl, H⟩
          have R0 := H.ext
          unfold law04_CutOpens_k1 at F
          refine CW.seq fun K9 hK9 => ?_
          obtain ⟨r1, hr1, F⟩ := bnd_some F
          refine CW.region ?_
          refine LW.go rfl rfl (OW.call Tc18 rfl (law04_sane_ok hr1) ?_)
          rintro _ w7 ⟨rfl, E5⟩
          refine ⟨_, rfl, ?_⟩
          replace H := H.grow E5
          replace R0 := H.ext
          refine LW.pure rfl rfl (RV.assign rfl) ?_
          refine LW.nil (hK9 _ _ ?_)
          refine CW.ret ?_
          obtain rfl := Option.some.inj F
          refine ⟨_, (ResOK.one rfl), ?_⟩
          refine ⟨(by first | rfl | simp), R0⟩
        ·
          intro K10 hK10 jK87
          refine CW.seq fun K11 hK11 => ?_
          refine CW.region ?_
          refine LW.pure rfl rfl (RV.assign rfl) ?_
          refine LW.nil (hK11 _ _ ?_)
          refine CW.block ?_
          refine CW.loop (fun meas ρ wl3 => ∃ (t9_1 : Int), law04_CutOpens_L1 a0 a1 r2 meas t9_1 = some res ∧ ρ = [(1, .slice A_a1 a1.length c_a1), (2, .pointer (some (⟨b1, 0, none⟩))), (4, .bool false), (5, .slice A19_0 r2.1.length c19_0), (9, .int .i64 t9_1)] ∧ Hp w wl3 [.own A19_0 c19_0 3 1 (List.map encN r2.1), .blk b1 24 [.slice A_a0_worth a0.worth.length c_a0_worth]]) FU ⟨_, ?_, ((0 : Int)), F, rfl, H⟩ ?_
          · exact ⟨rfl, rfl, rfl, (look_slice rfl (by first | rfl | (simp; done) | (simp; omega))), rfl, trivial⟩
          rintro mk1 _ wl3 ⟨t9_1, F, rfl, H⟩
          have R0 := H.ext
          replace F := law04_CutOpens_L1_s F
          obtain ⟨mk1, rfl, F⟩ := F
          generalize hrec1 : law04_CutOpens_L1 a0 a1 r2 mk1 = rec1 at F
          unfold law04_CutOpens_B1 at F
          refine CW.seq fun K12 hK12 => ?_
          refine CW.seq fun K13 hK13 => ?_
          refine CW.region ?_
          refine LW.pure rfl rfl (RV.move rfl) ?_
          refine LW.pure rfl rfl (RV.move rfl) ?_
          refine LW.pure rfl rfl (RV.len Ts25 rfl) ?_
          refine LW.pure rfl rfl (RV.lss rfl rfl) ?_
          refine LW.nil (hK13 _ _ ?_)
          by_cases hp3 : t9_1 < ((r2.1.length : Int))
          ·
            replace F := ite_y hp3 F
            have hq3 := dec_t hp3
            refine CW.condT rfl hq3 ?_
            refine CW.skip (hK12 _ _ ?_)
            refine CW.seq fun K14 hK14 => ?_
            refine CW.block ?_
            refine CW.seq fun K15 hK15 => ?_
            obtain ⟨hg1, F⟩ := gd_some F
            refine CW.region ?_
            refine LW.go rfl rfl (OW.buildSlice (e := 3) (vs := []) (cs := []) rfl (fun _ => by kernel_rfl) fun b3 w8 N3 => ?_)
            replace H := H.made' (k := 1) (t := 3) (enc := encN) (l := ([] : List Int)) N3 N3.blk (fun _ => rfl) rfl (by first | decide | omega | (simp; done) | (simp; omega))
            replace R0 := H.ext
            refine LW.pure rfl rfl (RV.move rfl) ?_
            refine LW.go rfl rfl (OW.appendG (enc := encN) (l := ([] : List Int)) (xs := a1) Ts25 (look_slice rfl (by first | rfl | (simp; done) | (simp; omega))) rfl (H.own 0 rfl) (h_a1.ext R0) (fun _ => rfl) rfl rfl hg1 (by decide) fun A1 c1 w9 O1 M1 D1 => ?_)
            replace H : Hp w w9 [.own A1 c1 3 1 (List.map encN ((([] : List Int) ++ a1))), .own A19_0 c19_0 3 1 (List.map encN r2.1), .blk b1 24 [.slice A_a0_worth a0.worth.length c_a0_worth]] := H.mod 0 rfl M1 O1 D1
            replace R0 := H.ext
            refine LW.pure rfl rfl (RV.assign rfl) ?_
            refine LW.nil (hK15 _ _ ?_)
            refine CW.seq fun K16 hK16 => ?_
            obtain ⟨x1, hbx1, hx1, F⟩ := ix_some F
            obtain ⟨x2, hbx2, hx2, F⟩ := ix_some F
            obtain ⟨hg2, F⟩ := gd_some F
            obtain ⟨x3, hbx3, hx3, F⟩ := ix_some F
            refine CW.region ?_
            refine LW.pure rfl rfl (RV.move rfl) ?_
            refine LW.pure rfl rfl (RV.move rfl) ?_
            refine LW.pure rfl rfl (RV.move rfl) ?_
            refine LW.pure rfl rfl (RV.indexAddr Ts25 rfl rfl hbx1 ((H.own 1 rfl).sl.addr_ hx1)) ?_
            refine LW.pure rfl rfl (RV.load1 Tk3 rfl ((H.own 1 rfl).sl.at_ hx1) rfl) ?_
            refine LW.pure rfl rfl (RV.indexAddr Ts25 rfl rfl hbx2 ((H.own 0 rfl).sl.addr_ hx2)) ?_
            refine LW.pure rfl rfl (RV.load1 Tk3 rfl ((H.own 0 rfl).sl.at_ hx2) rfl) ?_
            refine LW.pure rfl rfl (RV.add rfl rfl hg2) ?_
            refine LW.pure rfl rfl (RV.indexAddr Ts25 rfl rfl hbx3 ((H.own 0 rfl).sl.addr_ hx3)) ?_
            refine LW.go rfl rfl (OW.storeO (enc := encN) (vs := [.int .i64 (x2 + 1)]) 0 (x2 + 1) Tk3 rfl rfl (H.own 0 rfl) (fun _ => rfl) rfl hx3 rfl rfl (by decide) rfl rfl fun w10 M2 O2 => ?_)
            replace H : Hp w w10 [.own A1 c1 3 1 (List.map encN ((((([] : List Int) ++ a1)).set (Int.toNat x1) (x2 + 1)))), .own A19_0 c19_0 3 1 (List.map encN r2.1), .blk b1 24 [.slice A_a0_worth a0.worth.length c_a0_worth]] := H.mod 0 rfl M2 O2 (.inl rfl)
            replace R0 := H.ext
            refine LW.nil (hK16 _ _ ?_)
            refine CW.seq fun K17 hK17 => ?_
            obtain ⟨r3, hr3, F⟩ := bnd_some F
            refine CW.region ?_
            refine LW.pure rfl rfl (RV.loadA [.slice A_a0_worth a0.worth.length c_a0_worth] Tk24 rfl (H.blk 2 rfl).cells rfl rfl) ?_
            refine LW.pure rfl rfl (RV.move rfl) ?_
            refine LW.go rfl rfl (OW.call Tc22 (evs_cast rfl (by first | rfl | (simp; done) | (simp; omega))) (cut_CheckHollow_ok (a0 := a0) (a1 := (((([] : List Int) ++ a1)).set (Int.toNat x1) (x2 + 1))) (h_a0_worth.ext R0) (H.own 0 rfl).sl hr3) ?_)
            rintro _ w11 ⟨rfl, E6⟩
            refine ⟨_, rfl, ?_⟩
            replace H := H.grow E6
            replace R0 := H.ext
            refine LW.pure rfl rfl (RV.nei rfl rfl) ?_
            refine LW.nil (hK17 _ _ ?_)
            by_cases hp4 : r3 = 0
            ·
              replace F := ite_y hp4 F
              have hq4 := dec_t hp4
              refine CW.condF rfl (not_f hq4) ?_
              refine CW.skip (hK14 _ _ ?_)
              obtain ⟨hg3, F⟩ := gd_some F
              refine CW.region ?_
              refine LW.pure rfl rfl (RV.move rfl) ?_
              refine LW.pure rfl rfl (RV.add rfl rfl hg3) ?_
              refine LW.pure rfl rfl (RV.assign rfl) ?_
              refine LW.nil ?_
              replace H := H.pick (L' := [.own A19_0 c19_0 3 1 (List.map encN r2.1), .blk b1 24 [.slice A_a0_worth a0.worth.length c_a0_worth]]) [1, 2] (by decide) rfl
              replace R0 := H.ext
              subst hrec1
              refine ⟨mk1, Nat.lt_succ_self _, _, ?_, (t9_1 + 1), F, rfl, H⟩
              exact ⟨rfl, rfl, rfl, (look_slice rfl (by first | rfl | (simp; done) | (simp; omega))), rfl, trivial⟩
            ·
              replace F := ite_n hp4 F
              have hq4 := dec_f hp4
              refine CW.condT rfl (not_t hq4) ?_
              refine CW.seq fun K18 hK18 => ?_
              refine CW.region ?_
              refine LW.pure rfl rfl (RV.assign rfl) ?_
              refine LW.nil (hK18 _ _ ?_)
              refine CW.ret ?_
              obtain rfl := Option.some.inj F
              refine ⟨_, (ResOK.one rfl), ?_⟩
              refine ⟨(by first | rfl | simp), R0⟩
          ·
            replace F := ite_n hp3 F
            have hq3 := dec_f hp3
            refine CW.condF rfl hq3 ?_
            replace H := H.pick (L' := []) [] (by decide) rfl
            replace R0 := H.ext
            refine CW.exit (jK87 _ _ ⟨_, ?_, ⟨F, rfl, H⟩⟩)
            exact ⟨rfl, trivial⟩
    ·
      intro K19 hK19 jK110
      obtain ⟨r7, hr7, F⟩ := bnd_some F
      by_cases hp5 : r7 = true
      ·
        replace F := ite_y hp5 F
        have hq5 : r7 = true := hp5
        refine CW.region ?_
        refine LW.pure rfl rfl (RV.move rfl) ?_
        refine LW.pure rfl rfl (RV.move rfl) ?_
        refine LW.go rfl rfl (OW.call Tc21 rfl (ref04_SameInts_ok (a0 := r2.1) (a1 := r6.1) (H.own 1 rfl).sl (H.own 0 rfl).sl hr7) ?_)
        rintro _ w12 ⟨rfl, E7⟩
        refine ⟨_, rfl, ?_⟩
        have hS23 := hS23.ext E7
        replace H := H.grow E7
        replace R0 := H.ext
        refine LW.pure rfl rfl (RV.not rfl) ?_
        refine LW.pure rfl rfl (RV.move rfl) ?_
        refine LW.pureYB rfl rfl rfl rfl (not_f hq5) (RV.move rfl) ?_
        refine LW.pureYB rfl rfl rfl rfl (not_f hq5) (RV.move rfl) ?_
        refine LW.pureYB rfl rfl rfl rfl (not_f hq5) (RV.nei rfl rfl) ?_
        refine LW.pure rfl rfl (RV.pickFB rfl (not_f hq5) rfl) ?_
        replace H := H.pick (L' := [.own A19_0 c19_0 3 1 (List.map encN r2.1), .blk b1 24 [.slice A_a0_worth a0.worth.length c_a0_worth]]) [1, 3] (by decide) rfl
        replace R0 := H.ext
        refine LW.nil (jK110 _ _ ⟨_, ?_, ⟨(!(decide (r2.2 = r6.2))), F, rfl, H⟩⟩)
        exact ⟨rfl, rfl, rfl, (look_slice rfl (by first | rfl | (simp; done) | (simp; omega))), rfl, trivial⟩
      ·
        replace F := ite_n hp5 F
        have hq5 : r7 = false := raw_f hp5
        refine CW.region ?_
        refine LW.pure rfl rfl (RV.move rfl) ?_
        refine LW.pure rfl rfl (RV.move rfl) ?_
        refine LW.go rfl rfl (OW.call Tc21 rfl (ref04_SameInts_ok (a0 := r2.1) (a1 := r6.1) (H.own 1 rfl).sl (H.own 0 rfl).sl hr7) ?_)
        rintro _ w13 ⟨rfl, E8⟩
        refine ⟨_, rfl, ?_⟩
        have hS23 := hS23.ext E8
        replace H := H.grow E8
        replace R0 := H.ext
        refine LW.pure rfl rfl (RV.not rfl) ?_
        refine LW.pure rfl rfl (RV.move rfl) ?_
        refine LW.noB rfl rfl rfl rfl (ne_beq (v := true) (not_t hq5) rfl) ?_
        refine LW.noB rfl rfl rfl rfl (ne_beq (v := true) (not_t hq5) rfl) ?_
        refine LW.noB rfl rfl rfl rfl (ne_beq (v := true) (not_t hq5) rfl) ?_
        refine LW.pure rfl rfl (RV.pickTB rfl (not_t hq5) rfl) ?_
        replace H := H.pick (L' := [.own A19_0 c19_0 3 1 (List.map encN r2.1), .blk b1 24 [.slice A_a0_worth a0.worth.length c_a0_worth]]) [1, 3] (by decide) rfl
        replace R0 := H.ext
        refine LW.nil (jK110 _ _ ⟨_, ?_, ⟨true, F, rfl, H⟩⟩)
        exact ⟨rfl, rfl, rfl, (look_slice rfl (by first | rfl | (simp; done) | (simp; omega))), rfl, trivial⟩

set_option maxRecDepth 20000 in
set_option maxHeartbeats 1000000 in
theorem cut_Worth_ok {a0 : Bog} {a1 : List Int} {A_a0_worth : Option Addr} {c_a0_worth : Nat} {A_a1 : Option Addr} {c_a1 : Nat} {w : World} {res : Int × Int} (h_a0_worth : Sl2 w A_a0_worth c_a0_worth 1 encN a0.worth) (h_a1 : Sl w A_a1 c_a1 1 (a1.map encN)) (F : cut_Worth a0 a1 = some res) : Calls Try.prog 23 #[.agg #[.slice A_a0_worth a0.worth.length c_a0_worth], .slice A_a1 a1.length c_a1] w (Rt w (.tuple #[.int .i64 res.1, .int .i64 res.2])) := by
  refine calls_of_cw (args := [.agg #[.slice A_a0_worth a0.worth.length c_a0_worth], .slice A_a1 a1.length c_a1]) Try.func23 rfl rfl rfl rfl ?_
  have H := Hp.start w
  have R0 := H.ext
  unfold cut_Worth at F
  refine CW.seq fun K1 hK1 => ?_
  refine CW.region ?_
  refine LW.go rfl rfl (OW.box rfl fun b1 w1 N1 => ?_)
  replace H := H.new N1 N1.blk
  replace R0 := H.ext
  refine LW.pure rfl rfl (RV.assign rfl) ?_
  refine LW.pure rfl rfl (RV.assign rfl) ?_
  refine LW.nil (hK1 _ _ ?_)
  refine CW.seq fun K2 hK2 => ?_
  refine CW.seq fun K3 hK3 => ?_
  obtain ⟨r1, hr1, F⟩ := bnd_some F
  refine CW.region ?_
  refine LW.pure rfl rfl (RV.loadA [.slice A_a0_worth a0.worth.length c_a0_worth] Tk24 rfl (H.blk 0 rfl).cells rfl rfl) ?_
  refine LW.pure rfl rfl (RV.move rfl) ?_
  refine LW.go rfl rfl (OW.call Tc22 rfl (cut_CheckHollow_ok (a0 := a0) (a1 := a1) (h_a0_worth.ext R0) (h_a1.ext R0) hr1) ?_)
  rintro _ w2 ⟨rfl, E1⟩
  refine ⟨_, rfl, ?_⟩
  replace H := H.grow E1
  replace R0 := H.ext
  refine LW.pure rfl rfl (RV.assign rfl) ?_
  refine LW.nil (hK3 _ _ ?_)
  refine CW.seq fun K4 hK4 => ?_
  refine CW.region ?_
  refine LW.pure rfl rfl (RV.move rfl) ?_
  refine LW.pure rfl rfl (RV.nei rfl rfl) ?_
  refine LW.nil (hK4 _ _ ?_)
  by_cases hp1 : r1 = 0
  ·
    replace F := ite_y hp1 F
    have hq1 := dec_t hp1
    refine CW.condF rfl (not_f hq1) ?_
    refine CW.skip (hK2 _ _ ?_)
    refine CW.seq fun K5 hK5 => ?_
    obtain ⟨r2, hr2, F⟩ := bnd_some F
    refine CW.region ?_
    refine LW.pure rfl rfl (RV.loadA [.slice A_a0_worth a0.worth.length c_a0_worth] Tk24 rfl (H.blk 0 rfl).cells rfl rfl) ?_
    refine LW.pure rfl rfl (RV.move rfl) ?_
    refine LW.go rfl rfl (OW.call Tc65 rfl (cut_worth_ok (a0 := a0) (a1 := a1) (h_a0_worth.ext R0) (h_a1.ext R0) hr2) ?_)
    rintro _ w3 ⟨rfl, E2⟩
    refine ⟨_, rfl, ?_⟩
    replace H := H.grow E2
    replace R0 := H.ext
    refine LW.pure rfl rfl (RV.assign rfl) ?_
    refine LW.pure rfl rfl (RV.assign rfl) ?_
    refine LW.nil (hK5 _ _ ?_)
    refine CW.ret ?_
    obtain rfl := Option.some.inj F
    refine ⟨_, (ResOK.two rfl rfl), ?_⟩
    refine ⟨(by first | rfl | simp), R0⟩
  ·
    replace F := ite_n hp1 F
    have hq1 := dec_f hp1
    refine CW.condT rfl (not_t hq1) ?_
    refine CW.seq fun K6 hK6 => ?_
    refine CW.region ?_
    refine LW.pure rfl rfl (RV.move rfl) ?_
    refine LW.pure rfl rfl (RV.assign rfl) ?_
    refine LW.pure rfl rfl (RV.assign rfl) ?_
    refine LW.nil (hK6 _ _ ?_)
    refine CW.ret ?_
    obtain rfl := Option.some.inj F
    refine ⟨_, (ResOK.two rfl rfl), ?_⟩
    refine ⟨(by first | rfl | simp), R0⟩

set_option maxRecDepth 20000 in
set_option maxHeartbeats 1000000 in
theorem ref04_worth_ok {a0 : Bog} {a1 : List Int} {A_a0_worth : Option Addr} {c_a0_worth : Nat} {A_a1 : Option Addr} {c_a1 : Nat} {w : World} {res : Int} (h_a0_worth : Sl2 w A_a0_worth c_a0_worth 1 encN a0.worth) (h_a1 : Sl w A_a1 c_a1 1 (a1.map encN)) (F : ref04_worth a0 a1 = some res) : Calls Try.prog 66 #[.agg #[.slice A_a0_worth a0.worth.length c_a0_worth], .slice A_a1 a1.length c_a1] w (Rt w (.int .i64 res)) := by
  refine calls_of_cw (args := [.agg #[.slice A_a0_worth a0.worth.length c_a0_worth], .slice A_a1 a1.length c_a1]) Try.func66 rfl rfl rfl rfl ?_
  have H := Hp.start w
  have R0 := H.ext
  unfold ref04_worth at F
  refine CW.seq fun K1 hK1 => ?_
  refine CW.region ?_
  refine LW.go rfl rfl (OW.box rfl fun b1 w1 N1 => ?_)
  replace H := H.new N1 N1.blk
  replace R0 := H.ext
  refine LW.pure rfl rfl (RV.assign rfl) ?_
  refine LW.nil (hK1 _ _ ?_)
  refine CW.seq fun K2 hK2 => ?_
  refine CW.region ?_
  refine LW.pure rfl rfl (RV.assign rfl) ?_
  refine LW.nil (hK2 _ _ ?_)
  refine CW.seqJ (fun ρ wl1 => (∃ (t5_1 : Int), ref04_worth_k1 t5_1 = some res ∧ ρ = [(4, .int .i64 0), (5, .int .i64 t5_1)] ∧ Hp w wl1 [])) ?_ ?_
  ·
    rintro _ wl1 ⟨t5_1, F, rfl, H⟩
    have R0 := H.ext
    unfold ref04_worth_k1 at F
    refine CW.seq fun K3 hK3 => ?_
    refine CW.region ?_
    refine LW.pure rfl rfl (RV.move rfl) ?_
    refine LW.pure rfl rfl (RV.assign rfl) ?_
    refine LW.nil (hK3 _ _ ?_)
    refine CW.ret ?_
    obtain rfl := Option.some.inj F
    refine ⟨_, (ResOK.one rfl), ?_⟩
    refine ⟨(by first | rfl | simp), R0⟩
  ·
    intro K4 hK4 jK218
    refine CW.seq fun K5 hK5 => ?_
    refine CW.region ?_
    refine LW.pure rfl rfl (RV.assign rfl) ?_
    refine LW.nil (hK5 _ _ ?_)
    refine CW.block ?_
    refine CW.loop (fun meas ρ wl2 => ∃ (t5_4 : Int) (t6_1 : Int), ref04_worth_L2 a0 a1 meas t5_4 t6_1 = some res ∧ ρ = [(1, .slice A_a1 a1.length c_a1), (2, .pointer (some (⟨b1, 0, none⟩))), (4, .int .i64 0), (5, .int .i64 t5_4), (6, .int .i64 t6_1)] ∧ Hp w wl2 [.blk b1 24 [.slice A_a0_worth a0.worth.length c_a0_worth]]) FU ⟨_, ?_, ((0 : Int)), ((0 : Int)), F, rfl, H⟩ ?_
    · exact ⟨rfl, rfl, rfl, rfl, rfl, trivial⟩
    rintro mk1 _ wl2 ⟨t5_4, t6_1, F, rfl, H⟩
    have R0 := H.ext
    replace F := ref04_worth_L2_s F
    obtain ⟨mk1, rfl, F⟩ := F
    generalize hrec1 : ref04_worth_L2 a0 a1 mk1 = rec1 at F
    unfold ref04_worth_B2 at F
    refine CW.seq fun K6 hK6 => ?_
    refine CW.seq fun K7 hK7 => ?_
    refine CW.region ?_
    refine LW.pure rfl rfl (RV.move rfl) ?_
    refine LW.pure rfl rfl (RV.move rfl) ?_
    refine LW.pure rfl rfl (RV.len Ts25 rfl) ?_
    refine LW.pure rfl rfl (RV.lss rfl rfl) ?_
    refine LW.nil (hK7 _ _ ?_)
    by_cases hp1 : t6_1 < ((a1.length : Int))
    ·
      replace F := ite_y hp1 F
      have hq1 := dec_t hp1
      refine CW.condT rfl hq1 ?_
      refine CW.skip (hK6 _ _ ?_)
      refine CW.seqJ (fun ρ wl3 => (∃ (t5_2 : Int), ref04_worth_k2 t6_1 rec1 t5_2 = some res ∧ ρ = [(1, .slice A_a1 a1.length c_a1), (2, .pointer (some (⟨b1, 0, none⟩))), (4, .int .i64 0), (5, .int .i64 t5_2), (6, .int .i64 t6_1)] ∧ Hp w wl3 [.blk b1 24 [.slice A_a0_worth a0.worth.length c_a0_worth]])) ?_ ?_
      ·
        rintro _ wl3 ⟨t5_2, F, rfl, H⟩
        have R0 := H.ext
        unfold ref04_worth_k2 at F
        obtain ⟨hg1, F⟩ := gd_some F
        refine CW.region ?_
        refine LW.pure rfl rfl (RV.move rfl) ?_
        refine LW.pure rfl rfl (RV.add rfl rfl hg1) ?_
        refine LW.pure rfl rfl (RV.assign rfl) ?_
        refine LW.nil ?_
        subst hrec1
        refine ⟨mk1, Nat.lt_succ_self _, _, ?_, t5_2, (t6_1 + 1), F, rfl, H⟩
        exact ⟨rfl, rfl, rfl, rfl, rfl, trivial⟩
      ·
        intro K8 hK8 jK278
        refine CW.block ?_
        refine CW.seq fun K9 hK9 => ?_
        refine CW.region ?_
        refine LW.pure rfl rfl (RV.assign rfl) ?_
        refine LW.nil (hK9 _ _ ?_)
        refine CW.block ?_
        refine CW.loop (fun meas ρ wl4 => ∃ (t5_3 : Int) (t7_1 : Int), ref04_worth_L1 a0 a1 t6_1 rec1 meas t5_3 t7_1 = some res ∧ ρ = [(1, .slice A_a1 a1.length c_a1), (2, .pointer (some (⟨b1, 0, none⟩))), (4, .int .i64 0), (5, .int .i64 t5_3), (6, .int .i64 t6_1), (7, .int .i64 t7_1)] ∧ Hp w wl4 [.blk b1 24 [.slice A_a0_worth a0.worth.length c_a0_worth]]) FU ⟨_, ?_, t5_4, ((0 : Int)), F, rfl, H⟩ ?_
        · exact ⟨rfl, rfl, rfl, rfl, rfl, rfl, trivial⟩
        rintro mk2 _ wl4 ⟨t5_3, t7_1, F, rfl, H⟩
        have R0 := H.ext
        replace F := ref04_worth_L1_s F
        obtain ⟨mk2, rfl, F⟩ := F
        generalize hrec2 : ref04_worth_L1 a0 a1 t6_1 rec1 mk2 = rec2 at F
        unfold ref04_worth_B1 at F
        refine CW.seq fun K10 hK10 => ?_
        refine CW.seq fun K11 hK11 => ?_
        obtain ⟨x1, hbx1, hx1, F⟩ := ix_some F
        refine CW.region ?_
        refine LW.pure rfl rfl (RV.move rfl) ?_
        refine LW.pure rfl rfl (RV.move rfl) ?_
        refine LW.pure rfl rfl (RV.move rfl) ?_
        refine LW.pure rfl rfl (RV.indexAddr Ts25 rfl rfl hbx1 (h_a1.addr_ hx1)) ?_
        refine LW.pure rfl rfl (RV.load1 Tk3 rfl ((h_a1.at_ hx1).ext R0) rfl) ?_
        refine LW.pure rfl rfl (RV.lss rfl rfl) ?_
        refine LW.nil (hK11 _ _ ?_)
        by_cases hp2 : t7_1 < x1
        ·
          replace F := ite_y hp2 F
          have hq2 := dec_t hp2
          refine CW.condT rfl hq2 ?_
          refine CW.skip (hK10 _ _ ?_)
          refine CW.seq fun K12 hK12 => ?_
          refine CW.block ?_
          obtain ⟨x2, hbx2, hx2, F⟩ := ix_some F
          obtain ⟨x3, hbx3, hx3, F⟩ := ix_some F
          obtain ⟨hg2, F⟩ := gd_some F
          refine CW.region ?_
          refine LW.pure rfl rfl (RV.move rfl) ?_
          refine LW.pure rfl rfl (RV.fieldAddr Tf24_0 rfl) ?_
          refine LW.pure rfl rfl (RV.load1 Tk22 rfl ((H.blk 0 rfl).cells.off 0) rfl) ?_
          refine LW.pure rfl rfl (RV.move rfl) ?_
          obtain ⟨A1, c1, hC1, hS1⟩ := h_a0_worth.at_ hx2
          refine LW.pure rfl rfl (RV.indexAddr Ts22 rfl rfl hbx2 (h_a0_worth.addr hbx2)) ?_
          refine LW.pure rfl rfl (RV.load1 Tk25 rfl (hC1.ext R0) rfl) ?_
          refine LW.pure rfl rfl (RV.move rfl) ?_
          refine LW.pure rfl rfl (RV.indexAddr Ts25 rfl rfl hbx3 (hS1.addr_ hx3)) ?_
          refine LW.pure rfl rfl (RV.load1 Tk3 rfl ((hS1.at_ hx3).ext R0) rfl) ?_
          refine LW.pure rfl rfl (RV.add rfl rfl hg2) ?_
          refine LW.pure rfl rfl (RV.assign rfl) ?_
          refine LW.nil (hK12 _ _ ?_)
          obtain ⟨hg3, F⟩ := gd_some F
          refine CW.region ?_
          refine LW.pure rfl rfl (RV.move rfl) ?_
          refine LW.pure rfl rfl (RV.add rfl rfl hg3) ?_
          refine LW.pure rfl rfl (RV.assign rfl) ?_
          refine LW.nil ?_
          subst hrec2
          refine ⟨mk2, Nat.lt_succ_self _, _, ?_, (t5_3 + x3), (t7_1 + 1), F, rfl, H⟩
          exact ⟨rfl, rfl, rfl, rfl, rfl, rfl, trivial⟩
        ·
          replace F := ite_n hp2 F
          have hq2 := dec_f hp2
          refine CW.condF rfl hq2 ?_
          refine CW.exit (jK278 _ _ ⟨_, ?_, ⟨t5_3, F, rfl, H⟩⟩)
          exact ⟨rfl, rfl, rfl, rfl, rfl, trivial⟩
    ·
      replace F := ite_n hp1 F
      have hq1 := dec_f hp1
      refine CW.condF rfl hq1 ?_
      replace H := H.pick (L' := []) [] (by decide) rfl
      replace R0 := H.ext
      refine CW.exit (jK218 _ _ ⟨_, ?_, ⟨t5_4, F, rfl, H⟩⟩)
      exact ⟨rfl, rfl, trivial⟩

end Go.D4

set_option linter.unusedVariables false
namespace Go.D4
open Go.Tb




def ref04_Worth (a0 : Bog) (a1 : List Int) : Option (Int × Int) :=
  bnd (ref04_CheckHollow a0 a1) fun r1 =>
  if r1 = 0 then
    bnd (ref04_worth a0 a1) fun r2 =>
    some (r2, (0 : Int))
  else
    some ((0 : Int), r1)
def law04_CutHollows (a0 : Bog) (a1 : List Int) : Option Bool :=
  bnd (law04_Long a0 (([a1] : List (List Int)))) fun r1 =>
  if r1 = true then
    bnd (law04_sane) fun r2 =>
    some r2
  else
    bnd (cut_Worth a0 a1) fun r3 =>
    bnd (ref04_Worth a0 a1) fun r4 =>
    bnd (cut_Validate a0) fun r5 =>
    bnd (ref04_Validate a0) fun r6 =>
    if r5 = r6 then
      bnd (cut_CheckHollow a0 a1) fun r7 =>
      bnd (ref04_CheckHollow a0 a1) fun r8 =>
      if r7 = r8 then
        if r3.1 = r4.1 then
          if r3.2 = r4.2 then
            bnd (law04_sane) fun r9 =>
            some r9
          else
            some false
        else
          some false
      else
        some false
    else
      some false
def cut_two (a0 : Bog) (a1 : List Int) (a2 : List Int) : Option Int :=
  bnd (cut_CheckHollow a0 a1) fun r1 =>
  if r1 = 0 then
    bnd (cut_CheckHollow a0 a2) fun r2 =>
    some r2
  else
    some r1
def cut_Both (a0 : Bog) (a1 : List Int) (a2 : List Int) : Option ((List Int) × Int) :=
  bnd (cut_two a0 a1 a2) fun r1 =>
  if r1 = 0 then
    bnd (cut_joined a1 a2 cut_smaller) fun r2 =>
    some (r2, (0 : Int))
  else
    some (([] : List Int), r1)
def ref04_two (a0 : Bog) (a1 : List Int) (a2 : List Int) : Option Int :=
  bnd (ref04_CheckHollow a0 a1) fun r1 =>
  if r1 = 0 then
    bnd (ref04_CheckHollow a0 a2) fun r2 =>
    some r2
  else
    some r1
def ref04_least_k1 (l1 : List Int) : Option ((List Int)) :=
  some l1
def ref04_least_k2 (t4_1 : Int) (rec1 : Int → (List Int) → Option ((List Int))) (l2 : List Int) : Option ((List Int)) :=
  gd (InR (t4_1 + 1)) <|
  rec1 ((t4_1 + 1)) l2
def ref04_least_B1 (a0 : List (List Int)) (t4_1 : Int) (rec1 : Int → (List Int) → Option ((List Int))) (rec2 : Int → (List Int) → Option ((List Int))) (t5_1 : Int) (l3 : List Int) : Option ((List Int)) :=
  if t5_1 < ((l3.length : Int)) then
    ix l3 t5_1 fun x1 =>
    ix a0 t4_1 fun x2 =>
    ix x2 t5_1 fun x3 =>
    ix l3 t5_1 fun x4 =>
    gd (InR (t5_1 + 1)) <|
    rec2 ((t5_1 + 1)) (((l3.set (Int.toNat t5_1) (min x1 x3))))
  else
    ref04_least_k2 t4_1 rec1 l3
def ref04_least_L1 (a0 : List (List Int)) (t4_1 : Int) (rec1 : Int → (List Int) → Option ((List Int))) : Nat → Int → (List Int) → Option ((List Int))
  | 0, _, _ => none
  | n_ + 1, t5_1, l3 => ref04_least_B1 a0 t4_1 rec1 (ref04_least_L1 a0 t4_1 rec1 n_) t5_1 l3
theorem ref04_least_L1_s {a0 : List (List Int)} {t4_1 : Int} {rec1 : Int → (List Int) → Option ((List Int))} {m_ : Nat} {t5_1 : Int} {l3 : List Int} {res : (List Int)} (h : ref04_least_L1 a0 t4_1 rec1 m_ t5_1 l3 = some res) : ∃ k, m_ = k + 1 ∧ ref04_least_B1 a0 t4_1 rec1 (ref04_least_L1 a0 t4_1 rec1 k) t5_1 l3 = some res := by
  cases m_ with
  | zero => cases h
  | succ k => exact ⟨k, rfl, h⟩
def ref04_least_B2 (a0 : List (List Int)) (rec1 : Int → (List Int) → Option ((List Int))) (t4_1 : Int) (l4 : List Int) : Option ((List Int)) :=
  if t4_1 < ((a0.length : Int)) then
    ref04_least_L1 a0 t4_1 rec1 FU (((0 : Int))) l4
  else
    ref04_least_k1 l4
def ref04_least_L2 (a0 : List (List Int)) : Nat → Int → (List Int) → Option ((List Int))
  | 0, _, _ => none
  | n_ + 1, t4_1, l4 => ref04_least_B2 a0 (ref04_least_L2 a0 n_) t4_1 l4
theorem ref04_least_L2_s {a0 : List (List Int)} {m_ : Nat} {t4_1 : Int} {l4 : List Int} {res : (List Int)} (h : ref04_least_L2 a0 m_ t4_1 l4 = some res) : ∃ k, m_ = k + 1 ∧ ref04_least_B2 a0 (ref04_least_L2 a0 k) t4_1 l4 = some res := by
  cases m_ with
  | zero => cases h
  | succ k => exact ⟨k, rfl, h⟩
def ref04_least (a0 : List (List Int)) : Option ((List Int)) :=
  ix a0 0 fun x5 =>
  gd ((([] : List Int)).length + x5.length ≤ 1000000) <|
  ref04_least_L2 a0 FU (((0 : Int))) (((([] : List Int) ++ x5)))
end Go.D4

set_option linter.unusedVariables false
set_option linter.unusedSimpArgs false
namespace Go.D4
open Go.Tb Go.Proofs Go.RowKit

theorem Tc23 : callable Try.prog 23 = true := by kernel_rfl
theorem Tc24 : callable Try.prog 24 = true := by kernel_rfl
theorem Tc66 : callable Try.prog 66 = true := by kernel_rfl
theorem Tc83 : callable Try.prog 83 = true := by kernel_rfl

set_option maxRecDepth 20000 in
set_option maxHeartbeats 1000000 in
theorem ref04_Worth_ok {a0 : Bog} {a1 : List Int} {A_a0_worth : Option Addr} {c_a0_worth : Nat} {A_a1 : Option Addr} {c_a1 : Nat} {w : World} {res : Int × Int} (h_a0_worth : Sl2 w A_a0_worth c_a0_worth 1 encN a0.worth) (h_a1 : Sl w A_a1 c_a1 1 (a1.map encN)) (F : ref04_Worth a0 a1 = some res) : Calls Try.prog 24 #[.agg #[.slice A_a0_worth a0.worth.length c_a0_worth], .slice A_a1 a1.length c_a1] w (Rt w (.tuple #[.int .i64 res.1, .int .i64 res.2])) := by
  refine calls_of_cw (args := [.agg #[.slice A_a0_worth a0.worth.length c_a0_worth], .slice A_a1 a1.length c_a1]) Try.func24 rfl rfl rfl rfl ?_
  have H := Hp.start w
  have R0 := H.ext
  unfold ref04_Worth at F
  refine CW.seq fun K1 hK1 => ?_
  refine CW.region ?_
  refine LW.go rfl rfl (OW.box rfl fun b1 w1 N1 => ?_)
  replace H := H.new N1 N1.blk
  replace R0 := H.ext
  refine LW.pure rfl rfl (RV.assign rfl) ?_
  refine LW.pure rfl rfl (RV.assign rfl) ?_
  refine LW.nil (hK1 _ _ ?_)
  refine CW.seq fun K2 hK2 => ?_
  obtain ⟨r1, hr1, F⟩ := bnd_some F
  refine CW.region ?_
  refine LW.pure rfl rfl (RV.loadA [.slice A_a0_worth a0.worth.length c_a0_worth] Tk24 rfl (H.blk 0 rfl).cells rfl rfl) ?_
  refine LW.pure rfl rfl (RV.move rfl) ?_
  refine LW.go rfl rfl (OW.call Tc27 rfl (ref04_CheckHollow_ok (a0 := a0) (a1 := a1) (h_a0_worth.ext R0) (h_a1.ext R0) hr1) ?_)
  rintro _ w2 ⟨rfl, E1⟩
  refine ⟨_, rfl, ?_⟩
  replace H := H.grow E1
  replace R0 := H.ext
  refine LW.pure rfl rfl (RV.assign rfl) ?_
  refine LW.nil (hK2 _ _ ?_)
  refine CW.seq fun K3 hK3 => ?_
  refine CW.seq fun K4 hK4 => ?_
  refine CW.region ?_
  refine LW.pure rfl rfl (RV.move rfl) ?_
  refine LW.pure rfl rfl (RV.nei rfl rfl) ?_
  refine LW.nil (hK4 _ _ ?_)
  by_cases hp1 : r1 = 0
  ·
    replace F := ite_y hp1 F
    have hq1 := dec_t hp1
    refine CW.condF rfl (not_f hq1) ?_
    refine CW.skip (hK3 _ _ ?_)
    refine CW.seq fun K5 hK5 => ?_
    obtain ⟨r2, hr2, F⟩ := bnd_some F
    refine CW.region ?_
    refine LW.pure rfl rfl (RV.loadA [.slice A_a0_worth a0.worth.length c_a0_worth] Tk24 rfl (H.blk 0 rfl).cells rfl rfl) ?_
    refine LW.pure rfl rfl (RV.move rfl) ?_
    refine LW.go rfl rfl (OW.call Tc66 rfl (ref04_worth_ok (a0 := a0) (a1 := a1) (h_a0_worth.ext R0) (h_a1.ext R0) hr2) ?_)
    rintro _ w3 ⟨rfl, E2⟩
    refine ⟨_, rfl, ?_⟩
    replace H := H.grow E2
    replace R0 := H.ext
    refine LW.pure rfl rfl (RV.assign rfl) ?_
    refine LW.pure rfl rfl (RV.assign rfl) ?_
    refine LW.nil (hK5 _ _ ?_)
    refine CW.ret ?_
    obtain rfl := Option.some.inj F
    refine ⟨_, (ResOK.two rfl rfl), ?_⟩
    refine ⟨(by first | rfl | simp), R0⟩
  ·
    replace F := ite_n hp1 F
    have hq1 := dec_f hp1
    refine CW.condT rfl (not_t hq1) ?_
    refine CW.seq fun K6 hK6 => ?_
    refine CW.region ?_
    refine LW.pure rfl rfl (RV.move rfl) ?_
    refine LW.pure rfl rfl (RV.assign rfl) ?_
    refine LW.pure rfl rfl (RV.assign rfl) ?_
    refine LW.nil (hK6 _ _ ?_)
    refine CW.ret ?_
    obtain rfl := Option.some.inj F
    refine ⟨_, (ResOK.two rfl rfl), ?_⟩
    refine ⟨(by first | rfl | simp), R0⟩

set_option maxRecDepth 20000 in
set_option maxHeartbeats 1000000 in
theorem law04_CutHollows_ok {a0 : Bog} {a1 : List Int} {A_a0_worth : Option Addr} {c_a0_worth : Nat} {A_a1 : Option Addr} {c_a1 : Nat} {w : World} {res : Bool} (h_a0_worth : Sl2 w A_a0_worth c_a0_worth 1 encN a0.worth) (h_a1 : Sl w A_a1 c_a1 1 (a1.map encN)) (F : law04_CutHollows a0 a1 = some res) : Calls Try.prog 4 #[.agg #[.slice A_a0_worth a0.worth.length c_a0_worth], .slice A_a1 a1.length c_a1] w (Rt w (.bool res)) := by
  refine calls_of_cw (args := [.agg #[.slice A_a0_worth a0.worth.length c_a0_worth], .slice A_a1 a1.length c_a1]) Try.func4 rfl rfl rfl rfl ?_
  have H := Hp.start w
  have R0 := H.ext
  unfold law04_CutHollows at F
  refine CW.seq fun K1 hK1 => ?_
  refine CW.region ?_
  refine LW.go rfl rfl (OW.box rfl fun b1 w1 N1 => ?_)
  replace H := H.new N1 N1.blk
  replace R0 := H.ext
  refine LW.pure rfl rfl (RV.assign rfl) ?_
  refine LW.nil (hK1 _ _ ?_)
  refine CW.seq fun K2 hK2 => ?_
  refine CW.seq fun K3 hK3 => ?_
  obtain ⟨r1, hr1, F⟩ := bnd_some F
  refine CW.region ?_
  refine LW.pure rfl rfl (RV.loadA [.slice A_a0_worth a0.worth.length c_a0_worth] Tk24 rfl (H.blk 0 rfl).cells rfl rfl) ?_
  refine LW.pure rfl rfl (RV.move rfl) ?_
  refine LW.go rfl rfl (OW.buildSlice (e := 25) (vs := [.slice A_a1 a1.length c_a1]) (cs := [.slice A_a1 a1.length c_a1]) rfl (fun _ => by kernel_rfl) fun b2 w2 N2 => ?_)
  replace H := H.made' (k := 1) (t := 25) (enc := encH) (l := ([((A_a1, c_a1), a1)] : List ((Option Addr × Nat) × List Int))) N2 (by have q := N2.blk; simp only [List.flatMap_cons, List.flatMap_nil, encH, List.length_nil, List.append_nil, List.cons_append, List.nil_append]; first | done | exact q) (fun _ => rfl) rfl (by first | decide | omega | (simp; done) | (simp; omega))
  replace R0 := H.ext
  have hS23 : Sl2 w2 (some ⟨b2, 0, none⟩) 1 1 encN [a1] := Sl2.one (H.own 0 rfl).sl (h_a1.ext R0)
  refine LW.go rfl rfl (OW.call Tc17 (evs_cast rfl (by first | rfl | (simp; done) | (simp; omega))) (law04_Long_ok (a0 := a0) (a1 := ([a1] : List (List Int))) (h_a0_worth.ext R0) hS23 hr1) ?_)
  rintro _ w3 ⟨rfl, E1⟩
  refine ⟨_, rfl, ?_⟩
  have hS23 := hS23.ext E1
  replace H := H.grow E1
  replace R0 := H.ext
  refine LW.nil (hK3 _ _ ?_)
  by_cases hp1 : r1 = true
  ·
    replace F := ite_y hp1 F
    have hq1 : r1 = true := hp1
    refine CW.condT rfl hq1 ?_
    refine CW.seq fun K4 hK4 => ?_
    obtain ⟨r2, hr2, F⟩ := bnd_some F
    refine CW.region ?_
    refine LW.go rfl rfl (OW.call Tc18 rfl (law04_sane_ok hr2) ?_)
    rintro _ w4 ⟨rfl, E2⟩
    refine ⟨_, rfl, ?_⟩
    have hS23 := hS23.ext E2
    replace H := H.grow E2
    replace R0 := H.ext
    refine LW.pure rfl rfl (RV.assign rfl) ?_
    refine LW.nil (hK4 _ _ ?_)
    refine CW.ret ?_
    obtain rfl := Option.some.inj F
    refine ⟨_, (ResOK.one rfl), ?_⟩
    refine ⟨(by first | rfl | simp), R0⟩
  ·
    replace F := ite_n hp1 F
    have hq1 : r1 = false := raw_f hp1
    refine CW.condF rfl hq1 ?_
    refine CW.skip (hK2 _ _ ?_)
    refine CW.seq fun K5 hK5 => ?_
    obtain ⟨r3, hr3, F⟩ := bnd_some F
    refine CW.region ?_
    refine LW.pure rfl rfl (RV.loadA [.slice A_a0_worth a0.worth.length c_a0_worth] Tk24 rfl (H.blk 1 rfl).cells rfl rfl) ?_
    refine LW.pure rfl rfl (RV.move rfl) ?_
    refine LW.go rfl rfl (OW.call Tc23 rfl (cut_Worth_ok (a0 := a0) (a1 := a1) (h_a0_worth.ext R0) (h_a1.ext R0) hr3) ?_)
    rintro _ w5 ⟨rfl, E3⟩
    refine ⟨_, rfl, ?_⟩
    have hS23 := hS23.ext E3
    replace H := H.grow E3
    replace R0 := H.ext
    refine LW.pure rfl rfl (RV.move rfl) ?_
    refine LW.pure rfl rfl (RV.extract rfl rfl) ?_
    refine LW.pure rfl rfl (RV.extract rfl rfl) ?_
    refine LW.pure rfl rfl (RV.assign rfl) ?_
    refine LW.pure rfl rfl (RV.assign rfl) ?_
    refine LW.nil (hK5 _ _ ?_)
    refine CW.seq fun K6 hK6 => ?_
    obtain ⟨r4, hr4, F⟩ := bnd_some F
    refine CW.region ?_
    refine LW.pure rfl rfl (RV.loadA [.slice A_a0_worth a0.worth.length c_a0_worth] Tk24 rfl (H.blk 1 rfl).cells rfl rfl) ?_
    refine LW.pure rfl rfl (RV.move rfl) ?_
    refine LW.go rfl rfl (OW.call Tc24 rfl (ref04_Worth_ok (a0 := a0) (a1 := a1) (h_a0_worth.ext R0) (h_a1.ext R0) hr4) ?_)
    rintro _ w6 ⟨rfl, E4⟩
    refine ⟨_, rfl, ?_⟩
    have hS23 := hS23.ext E4
    replace H := H.grow E4
    replace R0 := H.ext
    refine LW.pure rfl rfl (RV.move rfl) ?_
    refine LW.pure rfl rfl (RV.extract rfl rfl) ?_
    refine LW.pure rfl rfl (RV.extract rfl rfl) ?_
    refine LW.pure rfl rfl (RV.assign rfl) ?_
    refine LW.pure rfl rfl (RV.assign rfl) ?_
    refine LW.nil (hK6 _ _ ?_)
    refine CW.seq fun K7 hK7 => ?_
    obtain ⟨r5, hr5, F⟩ := bnd_some F
    obtain ⟨r6, hr6, F⟩ := bnd_some F
    by_cases hp2 : r5 = r6
    ·
      replace F := ite_y hp2 F
      have hq2 := dec_t hp2
      obtain ⟨r7, hr7, F⟩ := bnd_some F
      obtain ⟨r8, hr8, F⟩ := bnd_some F
      by_cases hp3 : r7 = r8
      ·
        replace F := ite_y hp3 F
        have hq3 := dec_t hp3
        by_cases hp4 : r3.1 = r4.1
        ·
          replace F := ite_y hp4 F
          have hq4 := dec_t hp4
          by_cases hp5 : r3.2 = r4.2
          ·
            replace F := ite_y hp5 F
            have hq5 := dec_t hp5
            obtain ⟨r9, hr9, F⟩ := bnd_some F
            refine CW.draw [] (fun _ => True) (.cons 0 1 (.cons 2 1 (.cons 1 0 (.cons 3 0 (.cons 4 1 (.cons 5 1 (.cons 6 1 (.cons 7 1 (.cons 9 1 (.cons 10 1 (.cons 8 0 (.cons 11 0 (.cons 12 1 (.cons 13 1 (.cons 14 1 (.cons 15 1 (.cons 16 1 (.cons 17 1 (.cons 18 1 (.cons 19 1 (.cons 20 1 (.cons 21 1 (.cons 22 1 (.cons 23 1 (.cons 24 1 (.cons 25 0 (.cons 26 1 (.cons 27 1 .nil)))))))))))))))))))))))))))) mixed (by kernel_rfl) fun w7 E5 => ?_
            have hS23 := hS23.ext E5
            replace H := H.grow E5
            replace R0 := H.ext
            refine DW.fix rfl rfl rfl (fun _ EQ => RV.loadA [.slice A_a0_worth a0.worth.length c_a0_worth] Tk24 rfl ((H.grow EQ).blk 1 rfl).cells rfl rfl) ?_
            refine DW.fix rfl rfl rfl (fun _ EQ => RV.loadA [.slice A_a0_worth a0.worth.length c_a0_worth] Tk24 rfl ((H.grow EQ).blk 1 rfl).cells rfl rfl) ?_
            refine DW.sole rfl rfl rfl (OW.call Tc25 rfl (cut_Validate_ok (a0 := a0) (h_a0_worth.ext R0) hr5) ?_)
            rintro _ w8 ⟨rfl, E6⟩
            refine ⟨_, rfl, fun _ => E6, ModX.ext E6, ?_⟩
            have hS23 := hS23.ext E6
            replace H := H.grow E6
            replace R0 := H.ext
            refine DW.sole rfl rfl rfl (OW.call Tc26 rfl (ref04_Validate_ok (a0 := a0) (h_a0_worth.ext R0) hr6) ?_)
            rintro _ w9 ⟨rfl, E7⟩
            refine ⟨_, rfl, fun _ => E7, ModX.ext E7, ?_⟩
            have hS23 := hS23.ext E7
            replace H := H.grow E7
            replace R0 := H.ext
            refine DW.fix rfl rfl rfl (fun _ EQ => RV.eqi rfl rfl) ?_
            refine DW.fix rfl rfl rfl (fun _ EQ => RV.move rfl) ?_
            refine DW.fixYB rfl rfl rfl rfl rfl hq2 (fun _ EQ => RV.loadA [.slice A_a0_worth a0.worth.length c_a0_worth] Tk24 rfl ((H.grow EQ).blk 1 rfl).cells rfl rfl) ?_
            refine DW.fixYB rfl rfl rfl rfl rfl hq2 (fun _ EQ => RV.move rfl) ?_
            refine DW.fixYB rfl rfl rfl rfl rfl hq2 (fun _ EQ => RV.loadA [.slice A_a0_worth a0.worth.length c_a0_worth] Tk24 rfl ((H.grow EQ).blk 1 rfl).cells rfl rfl) ?_
            refine DW.fixYB rfl rfl rfl rfl rfl hq2 (fun _ EQ => RV.move rfl) ?_
            refine DW.soleYB rfl rfl rfl rfl rfl hq2 (OW.call Tc22 rfl (cut_CheckHollow_ok (a0 := a0) (a1 := a1) (h_a0_worth.ext R0) (h_a1.ext R0) hr7) ?_)
            rintro _ w10 ⟨rfl, E8⟩
            refine ⟨_, rfl, fun _ => E8, ModX.ext E8, ?_⟩
            have hS23 := hS23.ext E8
            replace H := H.grow E8
            replace R0 := H.ext
            refine DW.soleYB rfl rfl rfl rfl rfl hq2 (OW.call Tc27 rfl (ref04_CheckHollow_ok (a0 := a0) (a1 := a1) (h_a0_worth.ext R0) (h_a1.ext R0) hr8) ?_)
            rintro _ w11 ⟨rfl, E9⟩
            refine ⟨_, rfl, fun _ => E9, ModX.ext E9, ?_⟩
            have hS23 := hS23.ext E9
            replace H := H.grow E9
            replace R0 := H.ext
            refine DW.fixYB rfl rfl rfl rfl rfl hq2 (fun _ EQ => RV.eqi rfl rfl) ?_
            refine DW.fix rfl rfl rfl (fun _ EQ => RV.pickTB rfl hq2 rfl) ?_
            refine DW.fix rfl rfl rfl (fun _ EQ => RV.move rfl) ?_
            refine DW.fixYB rfl rfl rfl rfl rfl hq3 (fun _ EQ => RV.move rfl) ?_
            refine DW.fixYB rfl rfl rfl rfl rfl hq3 (fun _ EQ => RV.move rfl) ?_
            refine DW.fixYB rfl rfl rfl rfl rfl hq3 (fun _ EQ => RV.eqi rfl rfl) ?_
            refine DW.fix rfl rfl rfl (fun _ EQ => RV.pickTB rfl hq3 rfl) ?_
            refine DW.fix rfl rfl rfl (fun _ EQ => RV.move rfl) ?_
            refine DW.fixYB rfl rfl rfl rfl rfl hq4 (fun _ EQ => RV.move rfl) ?_
            refine DW.fixYB rfl rfl rfl rfl rfl hq4 (fun _ EQ => RV.move rfl) ?_
            refine DW.fixYB rfl rfl rfl rfl rfl hq4 (fun _ EQ => RV.eqi rfl rfl) ?_
            refine DW.fix rfl rfl rfl (fun _ EQ => RV.pickTB rfl hq4 rfl) ?_
            refine DW.fix rfl rfl rfl (fun _ EQ => RV.move rfl) ?_
            refine DW.soleYB rfl rfl rfl rfl rfl hq5 (OW.call Tc18 rfl (law04_sane_ok hr9) ?_)
            rintro _ w12 ⟨rfl, E10⟩
            refine ⟨_, rfl, fun _ => E10, ModX.ext E10, ?_⟩
            have hS23 := hS23.ext E10
            replace H := H.grow E10
            replace R0 := H.ext
            refine DW.fix rfl rfl rfl (fun _ EQ => RV.pickTB rfl hq5 rfl) ?_
            refine DW.fix rfl rfl rfl (fun _ EQ => RV.assign rfl) ?_
            refine DW.nil (hK7 _ _ ?_)
            refine CW.ret ?_
            obtain rfl := Option.some.inj F
            refine ⟨_, (ResOK.one rfl), ?_⟩
            refine ⟨(by first | rfl | simp), R0⟩
          ·
            replace F := ite_n hp5 F
            have hq5 := dec_f hp5
            refine CW.draw [] (fun _ => True) (.cons 0 1 (.cons 2 1 (.cons 1 0 (.cons 3 0 (.cons 4 1 (.cons 5 1 (.cons 6 1 (.cons 7 1 (.cons 9 1 (.cons 10 1 (.cons 8 0 (.cons 11 0 (.cons 12 1 (.cons 13 1 (.cons 14 1 (.cons 15 1 (.cons 16 1 (.cons 17 1 (.cons 18 1 (.cons 19 1 (.cons 20 1 (.cons 21 1 (.cons 22 1 (.cons 23 1 (.cons 24 1 (.cons 25 0 (.cons 26 1 (.cons 27 1 .nil)))))))))))))))))))))))))))) mixed (by kernel_rfl) fun w13 E11 => ?_
            have hS23 := hS23.ext E11
            replace H := H.grow E11
            replace R0 := H.ext
            refine DW.fix rfl rfl rfl (fun _ EQ => RV.loadA [.slice A_a0_worth a0.worth.length c_a0_worth] Tk24 rfl ((H.grow EQ).blk 1 rfl).cells rfl rfl) ?_
            refine DW.fix rfl rfl rfl (fun _ EQ => RV.loadA [.slice A_a0_worth a0.worth.length c_a0_worth] Tk24 rfl ((H.grow EQ).blk 1 rfl).cells rfl rfl) ?_
            refine DW.sole rfl rfl rfl (OW.call Tc25 rfl (cut_Validate_ok (a0 := a0) (h_a0_worth.ext R0) hr5) ?_)
            rintro _ w14 ⟨rfl, E12⟩
            refine ⟨_, rfl, fun _ => E12, ModX.ext E12, ?_⟩
            have hS23 := hS23.ext E12
            replace H := H.grow E12
            replace R0 := H.ext
            refine DW.sole rfl rfl rfl (OW.call Tc26 rfl (ref04_Validate_ok (a0 := a0) (h_a0_worth.ext R0) hr6) ?_)
            rintro _ w15 ⟨rfl, E13⟩
            refine ⟨_, rfl, fun _ => E13, ModX.ext E13, ?_⟩
            have hS23 := hS23.ext E13
            replace H := H.grow E13
            replace R0 := H.ext
            refine DW.fix rfl rfl rfl (fun _ EQ => RV.eqi rfl rfl) ?_
            refine DW.fix rfl rfl rfl (fun _ EQ => RV.move rfl) ?_
            refine DW.fixYB rfl rfl rfl rfl rfl hq2 (fun _ EQ => RV.loadA [.slice A_a0_worth a0.worth.length c_a0_worth] Tk24 rfl ((H.grow EQ).blk 1 rfl).cells rfl rfl) ?_
            refine DW.fixYB rfl rfl rfl rfl rfl hq2 (fun _ EQ => RV.move rfl) ?_
            refine DW.fixYB rfl rfl rfl rfl rfl hq2 (fun _ EQ => RV.loadA [.slice A_a0_worth a0.worth.length c_a0_worth] Tk24 rfl ((H.grow EQ).blk 1 rfl).cells rfl rfl) ?_
            refine DW.fixYB rfl rfl rfl rfl rfl hq2 (fun _ EQ => RV.move rfl) ?_
            refine DW.soleYB rfl rfl rfl rfl rfl hq2 (OW.call Tc22 rfl (cut_CheckHollow_ok (a0 := a0) (a1 := a1) (h_a0_worth.ext R0) (h_a1.ext R0) hr7) ?_)
            rintro _ w16 ⟨rfl, E14⟩
            refine ⟨_, rfl, fun _ => E14, ModX.ext E14, ?_⟩
            have hS23 := hS23.ext E14
            replace H := H.grow E14
            replace R0 := H.ext
            refine DW.soleYB rfl rfl rfl rfl rfl hq2 (OW.call Tc27 rfl (ref04_CheckHollow_ok (a0 := a0) (a1 := a1) (h_a0_worth.ext R0) (h_a1.ext R0) hr8) ?_)
            rintro _ w17 ⟨rfl, E15⟩
            refine ⟨_, rfl, fun _ => E15, ModX.ext E15, ?_⟩
            have hS23 := hS23.ext E15
            replace H := H.grow E15
            replace R0 := H.ext
            refine DW.fixYB rfl rfl rfl rfl rfl hq2 (fun _ EQ => RV.eqi rfl rfl) ?_
            refine DW.fix rfl rfl rfl (fun _ EQ => RV.pickTB rfl hq2 rfl) ?_
            refine DW.fix rfl rfl rfl (fun _ EQ => RV.move rfl) ?_
            refine DW.fixYB rfl rfl rfl rfl rfl hq3 (fun _ EQ => RV.move rfl) ?_
            refine DW.fixYB rfl rfl rfl rfl rfl hq3 (fun _ EQ => RV.move rfl) ?_
            refine DW.fixYB rfl rfl rfl rfl rfl hq3 (fun _ EQ => RV.eqi rfl rfl) ?_
            refine DW.fix rfl rfl rfl (fun _ EQ => RV.pickTB rfl hq3 rfl) ?_
            refine DW.fix rfl rfl rfl (fun _ EQ => RV.move rfl) ?_
            refine DW.fixYB rfl rfl rfl rfl rfl hq4 (fun _ EQ => RV.move rfl) ?_
            refine DW.fixYB rfl rfl rfl rfl rfl hq4 (fun _ EQ => RV.move rfl) ?_
            refine DW.fixYB rfl rfl rfl rfl rfl hq4 (fun _ EQ => RV.eqi rfl rfl) ?_
            refine DW.fix rfl rfl rfl (fun _ EQ => RV.pickTB rfl hq4 rfl) ?_
            refine DW.fix rfl rfl rfl (fun _ EQ => RV.move rfl) ?_
            refine DW.soleNB rfl rfl rfl rfl rfl (ne_beq (v := false) hq5 rfl) ?_
            refine DW.fix rfl rfl rfl (fun _ EQ => RV.pickFB rfl hq5 rfl) ?_
            refine DW.fix rfl rfl rfl (fun _ EQ => RV.assign rfl) ?_
            refine DW.nil (hK7 _ _ ?_)
            refine CW.ret ?_
            obtain rfl := Option.some.inj F
            refine ⟨_, (ResOK.one rfl), ?_⟩
            refine ⟨(by first | rfl | simp), R0⟩
        ·
          replace F := ite_n hp4 F
          have hq4 := dec_f hp4
          refine CW.draw [] (fun _ => True) (.cons 0 1 (.cons 2 1 (.cons 1 0 (.cons 3 0 (.cons 4 1 (.cons 5 1 (.cons 6 1 (.cons 7 1 (.cons 9 1 (.cons 10 1 (.cons 8 0 (.cons 11 0 (.cons 12 1 (.cons 13 1 (.cons 14 1 (.cons 15 1 (.cons 16 1 (.cons 17 1 (.cons 18 1 (.cons 19 1 (.cons 20 1 (.cons 21 1 (.cons 22 1 (.cons 23 1 (.cons 24 1 (.cons 25 0 (.cons 26 1 (.cons 27 1 .nil)))))))))))))))))))))))))))) mixed (by kernel_rfl) fun w18 E16 => ?_
          have hS23 := hS23.ext E16
          replace H := H.grow E16
          replace R0 := H.ext
          refine DW.fix rfl rfl rfl (fun _ EQ => RV.loadA [.slice A_a0_worth a0.worth.length c_a0_worth] Tk24 rfl ((H.grow EQ).blk 1 rfl).cells rfl rfl) ?_
          refine DW.fix rfl rfl rfl (fun _ EQ => RV.loadA [.slice A_a0_worth a0.worth.length c_a0_worth] Tk24 rfl ((H.grow EQ).blk 1 rfl).cells rfl rfl) ?_
          refine DW.sole rfl rfl rfl (OW.call Tc25 rfl (cut_Validate_ok (a0 := a0) (h_a0_worth.ext R0) hr5) ?_)
          rintro _ w19 ⟨rfl, E17⟩
          refine ⟨_, rfl, fun _ => E17, ModX.ext E17, ?_⟩
          have hS23 := hS23.ext E17
          replace H := H.grow E17
          replace R0 := H.ext
          refine DW.sole rfl rfl rfl (OW.call Tc26 rfl (ref04_Validate_ok (a0 := a0) (h_a0_worth.ext R0) hr6) ?_)
          rintro _ w20 ⟨rfl, E18⟩
          refine ⟨_, rfl, fun _ => E18, ModX.ext E18, ?_⟩
          have hS23 := hS23.ext E18
          replace H := H.grow E18
          replace R0 := H.ext
          refine DW.fix rfl rfl rfl (fun _ EQ => RV.eqi rfl rfl) ?_
          refine DW.fix rfl rfl rfl (fun _ EQ => RV.move rfl) ?_
          refine DW.fixYB rfl rfl rfl rfl rfl hq2 (fun _ EQ => RV.loadA [.slice A_a0_worth a0.worth.length c_a0_worth] Tk24 rfl ((H.grow EQ).blk 1 rfl).cells rfl rfl) ?_
          refine DW.fixYB rfl rfl rfl rfl rfl hq2 (fun _ EQ => RV.move rfl) ?_
          refine DW.fixYB rfl rfl rfl rfl rfl hq2 (fun _ EQ => RV.loadA [.slice A_a0_worth a0.worth.length c_a0_worth] Tk24 rfl ((H.grow EQ).blk 1 rfl).cells rfl rfl) ?_
          refine DW.fixYB rfl rfl rfl rfl rfl hq2 (fun _ EQ => RV.move rfl) ?_
          refine DW.soleYB rfl rfl rfl rfl rfl hq2 (OW.call Tc22 rfl (cut_CheckHollow_ok (a0 := a0) (a1 := a1) (h_a0_worth.ext R0) (h_a1.ext R0) hr7) ?_)
          rintro _ w21 ⟨rfl, E19⟩
          refine ⟨_, rfl, fun _ => E19, ModX.ext E19, ?_⟩
          have hS23 := hS23.ext E19
          replace H := H.grow E19
          replace R0 := H.ext
          refine DW.soleYB rfl rfl rfl rfl rfl hq2 (OW.call Tc27 rfl (ref04_CheckHollow_ok (a0 := a0) (a1 := a1) (h_a0_worth.ext R0) (h_a1.ext R0) hr8) ?_)
          rintro _ w22 ⟨rfl, E20⟩
          refine ⟨_, rfl, fun _ => E20, ModX.ext E20, ?_⟩
          have hS23 := hS23.ext E20
          replace H := H.grow E20
          replace R0 := H.ext
          refine DW.fixYB rfl rfl rfl rfl rfl hq2 (fun _ EQ => RV.eqi rfl rfl) ?_
          refine DW.fix rfl rfl rfl (fun _ EQ => RV.pickTB rfl hq2 rfl) ?_
          refine DW.fix rfl rfl rfl (fun _ EQ => RV.move rfl) ?_
          refine DW.fixYB rfl rfl rfl rfl rfl hq3 (fun _ EQ => RV.move rfl) ?_
          refine DW.fixYB rfl rfl rfl rfl rfl hq3 (fun _ EQ => RV.move rfl) ?_
          refine DW.fixYB rfl rfl rfl rfl rfl hq3 (fun _ EQ => RV.eqi rfl rfl) ?_
          refine DW.fix rfl rfl rfl (fun _ EQ => RV.pickTB rfl hq3 rfl) ?_
          refine DW.fix rfl rfl rfl (fun _ EQ => RV.move rfl) ?_
          refine DW.fixNB rfl rfl rfl rfl rfl (ne_beq (v := false) hq4 rfl) ?_
          refine DW.fixNB rfl rfl rfl rfl rfl (ne_beq (v := false) hq4 rfl) ?_
          refine DW.fixNB rfl rfl rfl rfl rfl (ne_beq (v := false) hq4 rfl) ?_
          refine DW.fix rfl rfl rfl (fun _ EQ => RV.pickFB rfl hq4 rfl) ?_
          refine DW.fix rfl rfl rfl (fun _ EQ => RV.move rfl) ?_
          refine DW.soleNB rfl rfl rfl rfl rfl (ne_beq (v := false) rfl rfl) ?_
          refine DW.fix rfl rfl rfl (fun _ EQ => RV.pickFB rfl rfl rfl) ?_
          refine DW.fix rfl rfl rfl (fun _ EQ => RV.assign rfl) ?_
          refine DW.nil (hK7 _ _ ?_)
          refine CW.ret ?_
          obtain rfl := Option.some.inj F
          refine ⟨_, (ResOK.one rfl), ?_⟩
          refine ⟨(by first | rfl | simp), R0⟩
      ·
        replace F := ite_n hp3 F
        have hq3 := dec_f hp3
        refine CW.draw [] (fun _ => True) (.cons 0 1 (.cons 2 1 (.cons 1 0 (.cons 3 0 (.cons 4 1 (.cons 5 1 (.cons 6 1 (.cons 7 1 (.cons 9 1 (.cons 10 1 (.cons 8 0 (.cons 11 0 (.cons 12 1 (.cons 13 1 (.cons 14 1 (.cons 15 1 (.cons 16 1 (.cons 17 1 (.cons 18 1 (.cons 19 1 (.cons 20 1 (.cons 21 1 (.cons 22 1 (.cons 23 1 (.cons 24 1 (.cons 25 0 (.cons 26 1 (.cons 27 1 .nil)))))))))))))))))))))))))))) mixed (by kernel_rfl) fun w23 E21 => ?_
        have hS23 := hS23.ext E21
        replace H := H.grow E21
        replace R0 := H.ext
        refine DW.fix rfl rfl rfl (fun _ EQ => RV.loadA [.slice A_a0_worth a0.worth.length c_a0_worth] Tk24 rfl ((H.grow EQ).blk 1 rfl).cells rfl rfl) ?_
        refine DW.fix rfl rfl rfl (fun _ EQ => RV.loadA [.slice A_a0_worth a0.worth.length c_a0_worth] Tk24 rfl ((H.grow EQ).blk 1 rfl).cells rfl rfl) ?_
        refine DW.sole rfl rfl rfl (OW.call Tc25 rfl (cut_Validate_ok (a0 := a0) (h_a0_worth.ext R0) hr5) ?_)
        rintro _ w24 ⟨rfl, E22⟩
        refine ⟨_, rfl, fun _ => E22, ModX.ext E22, ?_⟩
        have hS23 := hS23.ext E22
        replace H := H.grow E22
        replace R0 := H.ext
        refine DW.sole rfl rfl rfl (OW.call Tc26 rfl (ref04_Validate_ok (a0 := a0) (h_a0_worth.ext R0) hr6) ?_)
        rintro _ w25 ⟨rfl, E23⟩
        refine ⟨_, rfl, fun _ => E23, ModX.ext E23, ?_⟩
        have hS23 := hS23.ext E23
        replace H := H.grow E23
        replace R0 := H.ext
        refine DW.fix rfl rfl rfl (fun _ EQ => RV.eqi rfl rfl) ?_
        refine DW.fix rfl rfl rfl (fun _ EQ => RV.move rfl) ?_
        refine DW.fixYB rfl rfl rfl rfl rfl hq2 (fun _ EQ => RV.loadA [.slice A_a0_worth a0.worth.length c_a0_worth] Tk24 rfl ((H.grow EQ).blk 1 rfl).cells rfl rfl) ?_
        refine DW.fixYB rfl rfl rfl rfl rfl hq2 (fun _ EQ => RV.move rfl) ?_
        refine DW.fixYB rfl rfl rfl rfl rfl hq2 (fun _ EQ => RV.loadA [.slice A_a0_worth a0.worth.length c_a0_worth] Tk24 rfl ((H.grow EQ).blk 1 rfl).cells rfl rfl) ?_
        refine DW.fixYB rfl rfl rfl rfl rfl hq2 (fun _ EQ => RV.move rfl) ?_
        refine DW.soleYB rfl rfl rfl rfl rfl hq2 (OW.call Tc22 rfl (cut_CheckHollow_ok (a0 := a0) (a1 := a1) (h_a0_worth.ext R0) (h_a1.ext R0) hr7) ?_)
        rintro _ w26 ⟨rfl, E24⟩
        refine ⟨_, rfl, fun _ => E24, ModX.ext E24, ?_⟩
        have hS23 := hS23.ext E24
        replace H := H.grow E24
        replace R0 := H.ext
        refine DW.soleYB rfl rfl rfl rfl rfl hq2 (OW.call Tc27 rfl (ref04_CheckHollow_ok (a0 := a0) (a1 := a1) (h_a0_worth.ext R0) (h_a1.ext R0) hr8) ?_)
        rintro _ w27 ⟨rfl, E25⟩
        refine ⟨_, rfl, fun _ => E25, ModX.ext E25, ?_⟩
        have hS23 := hS23.ext E25
        replace H := H.grow E25
        replace R0 := H.ext
        refine DW.fixYB rfl rfl rfl rfl rfl hq2 (fun _ EQ => RV.eqi rfl rfl) ?_
        refine DW.fix rfl rfl rfl (fun _ EQ => RV.pickTB rfl hq2 rfl) ?_
        refine DW.fix rfl rfl rfl (fun _ EQ => RV.move rfl) ?_
        refine DW.fixNB rfl rfl rfl rfl rfl (ne_beq (v := false) hq3 rfl) ?_
        refine DW.fixNB rfl rfl rfl rfl rfl (ne_beq (v := false) hq3 rfl) ?_
        refine DW.fixNB rfl rfl rfl rfl rfl (ne_beq (v := false) hq3 rfl) ?_
        refine DW.fix rfl rfl rfl (fun _ EQ => RV.pickFB rfl hq3 rfl) ?_
        refine DW.fix rfl rfl rfl (fun _ EQ => RV.move rfl) ?_
        refine DW.fixNB rfl rfl rfl rfl rfl (ne_beq (v := false) rfl rfl) ?_
        refine DW.fixNB rfl rfl rfl rfl rfl (ne_beq (v := false) rfl rfl) ?_
        refine DW.fixNB rfl rfl rfl rfl rfl (ne_beq (v := false) rfl rfl) ?_
        refine DW.fix rfl rfl rfl (fun _ EQ => RV.pickFB rfl rfl rfl) ?_
        refine DW.fix rfl rfl rfl (fun _ EQ => RV.move rfl) ?_
        refine DW.soleNB rfl rfl rfl rfl rfl (ne_beq (v := false) rfl rfl) ?_
        refine DW.fix rfl rfl rfl (fun _ EQ => RV.pickFB rfl rfl rfl) ?_
        refine DW.fix rfl rfl rfl (fun _ EQ => RV.assign rfl) ?_
        refine DW.nil (hK7 _ _ ?_)
        refine CW.ret ?_
        obtain rfl := Option.some.inj F
        refine ⟨_, (ResOK.one rfl), ?_⟩
        refine ⟨(by first | rfl | simp), R0⟩
    ·
      replace F := ite_n hp2 F
      have hq2 := dec_f hp2
      refine CW.draw [] (fun _ => True) (.cons 0 1 (.cons 2 1 (.cons 1 0 (.cons 3 0 (.cons 4 1 (.cons 5 1 (.cons 6 1 (.cons 7 1 (.cons 9 1 (.cons 10 1 (.cons 8 0 (.cons 11 0 (.cons 12 1 (.cons 13 1 (.cons 14 1 (.cons 15 1 (.cons 16 1 (.cons 17 1 (.cons 18 1 (.cons 19 1 (.cons 20 1 (.cons 21 1 (.cons 22 1 (.cons 23 1 (.cons 24 1 (.cons 25 0 (.cons 26 1 (.cons 27 1 .nil)))))))))))))))))))))))))))) mixed (by kernel_rfl) fun w28 E26 => ?_
      have hS23 := hS23.ext E26
      replace H := H.grow E26
      replace R0 := H.ext
      refine DW.fix rfl rfl rfl (fun _ EQ => RV.loadA [.slice A_a0_worth a0.worth.length c_a0_worth] Tk24 rfl ((H.grow EQ).blk 1 rfl).cells rfl rfl) ?_
      refine DW.fix rfl rfl rfl (fun _ EQ => RV.loadA [.slice A_a0_worth a0.worth.length c_a0_worth] Tk24 rfl ((H.grow EQ).blk 1 rfl).cells rfl rfl) ?_
      refine DW.sole rfl rfl rfl (OW.call Tc25 rfl (cut_Validate_ok (a0 := a0) (h_a0_worth.ext R0) hr5) ?_)
      rintro _ w29 ⟨rfl, E27⟩
      refine ⟨_, rfl, fun _ => E27, ModX.ext E27, ?_⟩
      have hS23 := hS23.ext E27
      replace H := H.grow E27
      replace R0 := H.ext
      refine DW.sole rfl rfl rfl (OW.call Tc26 rfl (ref04_Validate_ok (a0 := a0) (h_a0_worth.ext R0) hr6) ?_)
      rintro _ w30 ⟨rfl, E28⟩
      refine ⟨_, rfl, fun _ => E28, ModX.ext E28, ?_⟩
      have hS23 := hS23.ext E28
      replace H := H.grow E28
      replace R0 := H.ext
      refine DW.fix rfl rfl rfl (fun _ EQ => RV.eqi rfl rfl) ?_
      refine DW.fix rfl rfl rfl (fun _ EQ => RV.move rfl) ?_
      refine DW.fixNB rfl rfl rfl rfl rfl (ne_beq (v := false) hq2 rfl) ?_
      refine DW.fixNB rfl rfl rfl rfl rfl (ne_beq (v := false) hq2 rfl) ?_
      refine DW.fixNB rfl rfl rfl rfl rfl (ne_beq (v := false) hq2 rfl) ?_
      refine DW.fixNB rfl rfl rfl rfl rfl (ne_beq (v := false) hq2 rfl) ?_
      refine DW.soleNB rfl rfl rfl rfl rfl (ne_beq (v := false) hq2 rfl) ?_
      refine DW.soleNB rfl rfl rfl rfl rfl (ne_beq (v := false) hq2 rfl) ?_
      refine DW.fixNB rfl rfl rfl rfl rfl (ne_beq (v := false) hq2 rfl) ?_
      refine DW.fix rfl rfl rfl (fun _ EQ => RV.pickFB rfl hq2 rfl) ?_
      refine DW.fix rfl rfl rfl (fun _ EQ => RV.move rfl) ?_
      refine DW.fixNB rfl rfl rfl rfl rfl (ne_beq (v := false) rfl rfl) ?_
      refine DW.fixNB rfl rfl rfl rfl rfl (ne_beq (v := false) rfl rfl) ?_
      refine DW.fixNB rfl rfl rfl rfl rfl (ne_beq (v := false) rfl rfl) ?_
      refine DW.fix rfl rfl rfl (fun _ EQ => RV.pickFB rfl rfl rfl) ?_
      refine DW.fix rfl rfl rfl (fun _ EQ => RV.move rfl) ?_
      refine DW.fixNB rfl rfl rfl rfl rfl (ne_beq (v := false) rfl rfl) ?_
      refine DW.fixNB rfl rfl rfl rfl rfl (ne_beq (v := false) rfl rfl) ?_
      refine DW.fixNB rfl rfl rfl rfl rfl (ne_beq (v := false) rfl rfl) ?_
      refine DW.fix rfl rfl rfl (fun _ EQ => RV.pickFB rfl rfl rfl) ?_
      refine DW.fix rfl rfl rfl (fun _ EQ => RV.move rfl) ?_
      refine DW.soleNB rfl rfl rfl rfl rfl (ne_beq (v := false) rfl rfl) ?_
      refine DW.fix rfl rfl rfl (fun _ EQ => RV.pickFB rfl rfl rfl) ?_
      refine DW.fix rfl rfl rfl (fun _ EQ => RV.assign rfl) ?_
      refine DW.nil (hK7 _ _ ?_)
      refine CW.ret ?_
      obtain rfl := Option.some.inj F
      refine ⟨_, (ResOK.one rfl), ?_⟩
      refine ⟨(by first | rfl | simp), R0⟩

set_option maxRecDepth 20000 in
set_option maxHeartbeats 1000000 in
theorem cut_two_ok {a0 : Bog} {a1 : List Int} {a2 : List Int} {A_a0_worth : Option Addr} {c_a0_worth : Nat} {A_a1 : Option Addr} {c_a1 : Nat} {A_a2 : Option Addr} {c_a2 : Nat} {w : World} {res : Int} (h_a0_worth : Sl2 w A_a0_worth c_a0_worth 1 encN a0.worth) (h_a1 : Sl w A_a1 c_a1 1 (a1.map encN)) (h_a2 : Sl w A_a2 c_a2 1 (a2.map encN)) (F : cut_two a0 a1 a2 = some res) : Calls Try.prog 83 #[.agg #[.slice A_a0_worth a0.worth.length c_a0_worth], .slice A_a1 a1.length c_a1, .slice A_a2 a2.length c_a2] w (Rt w (.int .i64 res)) := by
  refine calls_of_cw (args := [.agg #[.slice A_a0_worth a0.worth.length c_a0_worth], .slice A_a1 a1.length c_a1, .slice A_a2 a2.length c_a2]) Try.func83 rfl rfl rfl rfl ?_
  have H := Hp.start w
  have R0 := H.ext
  unfold cut_two at F
  refine CW.seq fun K1 hK1 => ?_
  refine CW.region ?_
  refine LW.go rfl rfl (OW.box rfl fun b1 w1 N1 => ?_)
  replace H := H.new N1 N1.blk
  replace R0 := H.ext
  refine LW.pure rfl rfl (RV.assign rfl) ?_
  refine LW.nil (hK1 _ _ ?_)
  refine CW.seq fun K2 hK2 => ?_
  refine CW.seq fun K3 hK3 => ?_
  obtain ⟨r1, hr1, F⟩ := bnd_some F
  refine CW.region ?_
  refine LW.pure rfl rfl (RV.loadA [.slice A_a0_worth a0.worth.length c_a0_worth] Tk24 rfl (H.blk 0 rfl).cells rfl rfl) ?_
  refine LW.pure rfl rfl (RV.move rfl) ?_
  refine LW.go rfl rfl (OW.call Tc22 rfl (cut_CheckHollow_ok (a0 := a0) (a1 := a1) (h_a0_worth.ext R0) (h_a1.ext R0) hr1) ?_)
  rintro _ w2 ⟨rfl, E1⟩
  refine ⟨_, rfl, ?_⟩
  replace H := H.grow E1
  replace R0 := H.ext
  refine LW.pure rfl rfl (RV.assign rfl) ?_
  refine LW.nil (hK3 _ _ ?_)
  refine CW.seq fun K4 hK4 => ?_
  refine CW.region ?_
  refine LW.pure rfl rfl (RV.move rfl) ?_
  refine LW.pure rfl rfl (RV.nei rfl rfl) ?_
  refine LW.nil (hK4 _ _ ?_)
  by_cases hp1 : r1 = 0
  ·
    replace F := ite_y hp1 F
    have hq1 := dec_t hp1
    refine CW.condF rfl (not_f hq1) ?_
    refine CW.skip (hK2 _ _ ?_)
    refine CW.seq fun K5 hK5 => ?_
    obtain ⟨r2, hr2, F⟩ := bnd_some F
    refine CW.region ?_
    refine LW.pure rfl rfl (RV.loadA [.slice A_a0_worth a0.worth.length c_a0_worth] Tk24 rfl (H.blk 0 rfl).cells rfl rfl) ?_
    refine LW.pure rfl rfl (RV.move rfl) ?_
    refine LW.go rfl rfl (OW.call Tc22 rfl (cut_CheckHollow_ok (a0 := a0) (a1 := a2) (h_a0_worth.ext R0) (h_a2.ext R0) hr2) ?_)
    rintro _ w3 ⟨rfl, E2⟩
    refine ⟨_, rfl, ?_⟩
    replace H := H.grow E2
    replace R0 := H.ext
    refine LW.pure rfl rfl (RV.assign rfl) ?_
    refine LW.nil (hK5 _ _ ?_)
    refine CW.ret ?_
    obtain rfl := Option.some.inj F
    refine ⟨_, (ResOK.one rfl), ?_⟩
    refine ⟨(by first | rfl | simp), R0⟩
  ·
    replace F := ite_n hp1 F
    have hq1 := dec_f hp1
    refine CW.condT rfl (not_t hq1) ?_
    refine CW.seq fun K6 hK6 => ?_
    refine CW.region ?_
    refine LW.pure rfl rfl (RV.move rfl) ?_
    refine LW.pure rfl rfl (RV.assign rfl) ?_
    refine LW.nil (hK6 _ _ ?_)
    refine CW.ret ?_
    obtain rfl := Option.some.inj F
    refine ⟨_, (ResOK.one rfl), ?_⟩
    refine ⟨(by first | rfl | simp), R0⟩

set_option maxRecDepth 20000 in
set_option maxHeartbeats 1000000 in
theorem cut_Both_ok {a0 : Bog} {a1 : List Int} {a2 : List Int} {A_a0_worth : Option Addr} {c_a0_worth : Nat} {A_a1 : Option Addr} {c_a1 : Nat} {A_a2 : Option Addr} {c_a2 : Nat} {w : World} {res : (List Int) × Int} (h_a0_worth : Sl2 w A_a0_worth c_a0_worth 1 encN a0.worth) (h_a1 : Sl w A_a1 c_a1 1 (a1.map encN)) (h_a2 : Sl w A_a2 c_a2 1 (a2.map encN)) (F : cut_Both a0 a1 a2 = some res) : Calls Try.prog 39 #[.agg #[.slice A_a0_worth a0.worth.length c_a0_worth], .slice A_a1 a1.length c_a1, .slice A_a2 a2.length c_a2] w (fun e w' => ∃ (A0 : Option Addr) (c0 : Nat), e = .returned (.tuple #[.slice A0 res.1.length c0, .int .i64 res.2]) ∧ Hp w w' [.own A0 c0 3 1 (List.map encN res.1)]) := by
  refine calls_of_cw (args := [.agg #[.slice A_a0_worth a0.worth.length c_a0_worth], .slice A_a1 a1.length c_a1, .slice A_a2 a2.length c_a2]) Try.func39 rfl rfl rfl rfl ?_
  have H := Hp.start w
  have R0 := H.ext
  unfold cut_Both at F
  refine CW.seq fun K1 hK1 => ?_
  refine CW.region ?_
  refine LW.go rfl rfl (OW.box rfl fun b1 w1 N1 => ?_)
  replace H := H.new N1 N1.blk
  replace R0 := H.ext
  refine LW.pure rfl rfl (RV.assign rfl) ?_
  refine LW.pure rfl rfl (RV.assign rfl) ?_
  refine LW.nil (hK1 _ _ ?_)
  refine CW.seq fun K2 hK2 => ?_
  refine CW.seq fun K3 hK3 => ?_
  obtain ⟨r1, hr1, F⟩ := bnd_some F
  refine CW.region ?_
  refine LW.pure rfl rfl (RV.loadA [.slice A_a0_worth a0.worth.length c_a0_worth] Tk24 rfl (H.blk 0 rfl).cells rfl rfl) ?_
  refine LW.pure rfl rfl (RV.move rfl) ?_
  refine LW.pure rfl rfl (RV.move rfl) ?_
  refine LW.go rfl rfl (OW.call Tc83 rfl (cut_two_ok (a0 := a0) (a1 := a1) (a2 := a2) (h_a0_worth.ext R0) (h_a1.ext R0) (h_a2.ext R0) hr1) ?_)
  rintro _ w2 ⟨rfl, E1⟩
  refine ⟨_, rfl, ?_⟩
  replace H := H.grow E1
  replace R0 := H.ext
  refine LW.pure rfl rfl (RV.assign rfl) ?_
  refine LW.nil (hK3 _ _ ?_)
  refine CW.seq fun K4 hK4 => ?_
  refine CW.region ?_
  refine LW.pure rfl rfl (RV.move rfl) ?_
  refine LW.pure rfl rfl (RV.nei rfl rfl) ?_
  refine LW.nil (hK4 _ _ ?_)
  by_cases hp1 : r1 = 0
  ·
    replace F := ite_y hp1 F
    have hq1 := dec_t hp1
    refine CW.condF rfl (not_f hq1) ?_
    refine CW.skip (hK2 _ _ ?_)
    refine CW.seq fun K5 hK5 => ?_
    obtain ⟨r2, hr2, F⟩ := bnd_some F
    refine CW.region ?_
    refine LW.pure rfl rfl (RV.move rfl) ?_
    refine LW.pure rfl rfl (RV.move rfl) ?_
    refine LW.go rfl rfl (OW.call Tc84 rfl (cut_joined_ok (a0 := a1) (a1 := a2) (a2 := cut_smaller) (h_a1.ext R0) (h_a2.ext R0) (fun x0 x1 r hF w3 hE => CallsV.of Tc74 (cut_smaller_ok (a0 := x0) (a1 := x1) hF)) hr2) ?_)
    rintro _ w4 ⟨A6_0, c6_0, rfl, E2⟩
    refine ⟨_, rfl, ?_⟩
    replace H : Hp w w4 [.own A6_0 c6_0 3 1 (List.map encN r2), .blk b1 24 [.slice A_a0_worth a0.worth.length c_a0_worth]] := H.append E2
    replace R0 := H.ext
    refine LW.pure rfl rfl (RV.assign rfl) ?_
    refine LW.pure rfl rfl (RV.assign rfl) ?_
    refine LW.nil (hK5 _ _ ?_)
    refine CW.ret ?_
    obtain rfl := Option.some.inj F
    refine ⟨_, (ResOK.two rfl rfl), ?_⟩
    replace H := H.pick (L' := [.own A6_0 c6_0 3 1 (List.map encN r2)]) [0] (by decide) rfl
    replace R0 := H.ext
    exact ⟨A6_0, c6_0, (by first | rfl | (simp; done) | (simp; omega)), H⟩
  ·
    replace F := ite_n hp1 F
    have hq1 := dec_f hp1
    refine CW.condT rfl (not_t hq1) ?_
    refine CW.seq fun K6 hK6 => ?_
    refine CW.region ?_
    refine LW.pure rfl rfl (RV.move rfl) ?_
    refine LW.pure rfl rfl (RV.assign rfl) ?_
    refine LW.pure rfl rfl (RV.assign rfl) ?_
    refine LW.nil (hK6 _ _ ?_)
    refine CW.ret ?_
    obtain rfl := Option.some.inj F
    refine ⟨_, (ResOK.two rfl rfl), ?_⟩
    replace H := H.nilOwn 3 1
    replace R0 := H.ext
    replace H := H.pick (L' := [.own none 0 3 1 (List.map encN (([] : List Int)))]) [0] (by decide) rfl
    replace R0 := H.ext
    exact ⟨none, 0, (by first | rfl | (simp; done) | (simp; omega)), H⟩

set_option maxRecDepth 20000 in
set_option maxHeartbeats 1000000 in
theorem ref04_two_ok {a0 : Bog} {a1 : List Int} {a2 : List Int} {A_a0_worth : Option Addr} {c_a0_worth : Nat} {A_a1 : Option Addr} {c_a1 : Nat} {A_a2 : Option Addr} {c_a2 : Nat} {w : World} {res : Int} (h_a0_worth : Sl2 w A_a0_worth c_a0_worth 1 encN a0.worth) (h_a1 : Sl w A_a1 c_a1 1 (a1.map encN)) (h_a2 : Sl w A_a2 c_a2 1 (a2.map encN)) (F : ref04_two a0 a1 a2 = some res) : Calls Try.prog 85 #[.agg #[.slice A_a0_worth a0.worth.length c_a0_worth], .slice A_a1 a1.length c_a1, .slice A_a2 a2.length c_a2] w (Rt w (.int .i64 res)) := by
  refine calls_of_cw (args := [.agg #[.slice A_a0_worth a0.worth.length c_a0_worth], .slice A_a1 a1.length c_a1, .slice A_a2 a2.length c_a2]) Try.func85 rfl rfl rfl rfl ?_
  have H := Hp.start w
  have R0 := H.ext
  unfold ref04_two at F
  refine CW.seq fun K1 hK1 => ?_
  refine CW.region ?_
  refine LW.go rfl rfl (OW.box rfl fun b1 w1 N1 => ?_)
  replace H := H.new N1 N1.blk
  replace R0 := H.ext
  refine LW.pure rfl rfl (RV.assign rfl) ?_
  refine LW.nil (hK1 _ _ ?_)
  refine CW.seq fun K2 hK2 => ?_
  obtain ⟨r1, hr1, F⟩ := bnd_some F
  refine CW.region ?_
  refine LW.pure rfl rfl (RV.loadA [.slice A_a0_worth a0.worth.length c_a0_worth] Tk24 rfl (H.blk 0 rfl).cells rfl rfl) ?_
  refine LW.pure rfl rfl (RV.move rfl) ?_
  refine LW.go rfl rfl (OW.call Tc27 rfl (ref04_CheckHollow_ok (a0 := a0) (a1 := a1) (h_a0_worth.ext R0) (h_a1.ext R0) hr1) ?_)
  rintro _ w2 ⟨rfl, E1⟩
  refine ⟨_, rfl, ?_⟩
  replace H := H.grow E1
  replace R0 := H.ext
  refine LW.pure rfl rfl (RV.assign rfl) ?_
  refine LW.nil (hK2 _ _ ?_)
  refine CW.seq fun K3 hK3 => ?_
  refine CW.seq fun K4 hK4 => ?_
  refine CW.region ?_
  refine LW.pure rfl rfl (RV.move rfl) ?_
  refine LW.pure rfl rfl (RV.nei rfl rfl) ?_
  refine LW.nil (hK4 _ _ ?_)
  by_cases hp1 : r1 = 0
  ·
    replace F := ite_y hp1 F
    have hq1 := dec_t hp1
    refine CW.condF rfl (not_f hq1) ?_
    refine CW.skip (hK3 _ _ ?_)
    refine CW.seq fun K5 hK5 => ?_
    obtain ⟨r2, hr2, F⟩ := bnd_some F
    refine CW.region ?_
    refine LW.pure rfl rfl (RV.loadA [.slice A_a0_worth a0.worth.length c_a0_worth] Tk24 rfl (H.blk 0 rfl).cells rfl rfl) ?_
    refine LW.pure rfl rfl (RV.move rfl) ?_
    refine LW.go rfl rfl (OW.call Tc27 rfl (ref04_CheckHollow_ok (a0 := a0) (a1 := a2) (h_a0_worth.ext R0) (h_a2.ext R0) hr2) ?_)
    rintro _ w3 ⟨rfl, E2⟩
    refine ⟨_, rfl, ?_⟩
    replace H := H.grow E2
    replace R0 := H.ext
    refine LW.pure rfl rfl (RV.assign rfl) ?_
    refine LW.nil (hK5 _ _ ?_)
    refine CW.ret ?_
    obtain rfl := Option.some.inj F
    refine ⟨_, (ResOK.one rfl), ?_⟩
    refine ⟨(by first | rfl | simp), R0⟩
  ·
    replace F := ite_n hp1 F
    have hq1 := dec_f hp1
    refine CW.condT rfl (not_t hq1) ?_
    refine CW.seq fun K6 hK6 => ?_
    refine CW.region ?_
    refine LW.pure rfl rfl (RV.move rfl) ?_
    refine LW.pure rfl rfl (RV.assign rfl) ?_
    refine LW.nil (hK6 _ _ ?_)
    refine CW.ret ?_
    obtain rfl := Option.some.inj F
    refine ⟨_, (ResOK.one rfl), ?_⟩
    refine ⟨(by first | rfl | simp), R0⟩

set_option maxRecDepth 20000 in
set_option maxHeartbeats 1000000 in
theorem ref04_least_ok {a0 : List (List Int)} {A_a0 : Option Addr} {c_a0 : Nat} {w : World} {res : (List Int)} (h_a0 : Sl2 w A_a0 c_a0 1 encN a0) (F : ref04_least a0 = some res) : Calls Try.prog 76 #[.slice A_a0 a0.length c_a0] w (fun e w' => ∃ (A1 : Option Addr) (c1 : Nat), e = .returned (.slice A1 res.length c1) ∧ Hp w w' [.own A1 c1 3 1 (List.map encN res)]) := by
  refine calls_of_cw (args := [.slice A_a0 a0.length c_a0]) Try.func76 rfl rfl rfl rfl ?_
  have H := Hp.start w
  have R0 := H.ext
  unfold ref04_least at F
  refine CW.seq fun K1 hK1 => ?_
  refine CW.region ?_
  refine LW.pure rfl rfl (RV.assign rfl) ?_
  refine LW.nil (hK1 _ _ ?_)
  refine CW.seq fun K2 hK2 => ?_
  obtain ⟨x5, hbx5, hx5, F⟩ := ix_some F
  obtain ⟨hg1, F⟩ := gd_some F
  refine CW.region ?_
  refine LW.go rfl rfl (OW.buildSlice (e := 3) (vs := []) (cs := []) rfl (fun _ => by kernel_rfl) fun b1 w1 N1 => ?_)
  replace H := H.made' (k := 1) (t := 3) (enc := encN) (l := ([] : List Int)) N1 N1.blk (fun _ => rfl) rfl (by first | decide | omega | (simp; done) | (simp; omega))
  replace R0 := H.ext
  refine LW.pure rfl rfl (RV.move rfl) ?_
  obtain ⟨A2, c2, hC1, hS1⟩ := h_a0.at_ hx5
  refine LW.pure rfl rfl (RV.indexAddr Ts22 rfl rfl hbx5 (h_a0.addr hbx5)) ?_
  refine LW.pure rfl rfl (RV.load1 Tk25 rfl (hC1.ext R0) rfl) ?_
  refine LW.go rfl rfl (OW.appendG (enc := encN) (l := ([] : List Int)) (xs := x5) Ts25 (look_slice rfl (by first | rfl | (simp; done) | (simp; omega))) rfl (H.own 0 rfl) (hS1.ext R0) (fun _ => rfl) rfl rfl hg1 (by decide) fun A3 c3 w2 O1 M1 D1 => ?_)
  replace H : Hp w w2 [.own A3 c3 3 1 (List.map encN ((([] : List Int) ++ x5)))] := H.mod 0 rfl M1 O1 D1
  replace R0 := H.ext
  refine LW.pure rfl rfl (RV.assign rfl) ?_
  refine LW.nil (hK2 _ _ ?_)
  refine CW.seqJ (fun ρ wl1 => (∃ (l1 : List Int), ref04_least_k1 l1 = some res ∧ ρ = [(2, .slice none 0 0), (3, .slice A3 l1.length c3)] ∧ Hp w wl1 [.own A3 c3 3 1 (List.map encN l1)])) ?_ ?_
  ·
    rintro _ wl1 ⟨l1, F, rfl, H⟩
    have R0 := H.ext
    unfold ref04_least_k1 at F
    refine CW.seq fun K3 hK3 => ?_
    refine CW.region ?_
    refine LW.pure rfl rfl (RV.move rfl) ?_
    refine LW.pure rfl rfl (RV.assign rfl) ?_
    refine LW.nil (hK3 _ _ ?_)
    refine CW.ret ?_
    obtain rfl := Option.some.inj F
    refine ⟨_, (ResOK.one rfl), ?_⟩
    exact ⟨A3, c3, (by first | rfl | (simp; done) | (simp; omega)), H⟩
  ·
    intro K4 hK4 jK218
    refine CW.seq fun K5 hK5 => ?_
    refine CW.region ?_
    refine LW.pure rfl rfl (RV.assign rfl) ?_
    refine LW.nil (hK5 _ _ ?_)
    refine CW.block ?_
    refine CW.loop (fun meas ρ wl2 => ∃ (t4_1 : Int) (l4 : List Int), ref04_least_L2 a0 meas t4_1 l4 = some res ∧ ρ = [(0, .slice A_a0 a0.length c_a0), (2, .slice none 0 0), (3, .slice A3 l4.length c3), (4, .int .i64 t4_1)] ∧ Hp w wl2 [.own A3 c3 3 1 (List.map encN l4)]) FU ⟨_, ?_, ((0 : Int)), ((([] : List Int) ++ x5)), F, rfl, H⟩ ?_
    · exact ⟨rfl, rfl, (look_slice rfl (by first | rfl | (simp; done) | (simp; omega))), rfl, trivial⟩
    rintro mk1 _ wl2 ⟨t4_1, l4, F, rfl, H⟩
    have R0 := H.ext
    replace F := ref04_least_L2_s F
    obtain ⟨mk1, rfl, F⟩ := F
    generalize hrec1 : ref04_least_L2 a0 mk1 = rec1 at F
    unfold ref04_least_B2 at F
    refine CW.seq fun K6 hK6 => ?_
    refine CW.seq fun K7 hK7 => ?_
    refine CW.region ?_
    refine LW.pure rfl rfl (RV.move rfl) ?_
    refine LW.pure rfl rfl (RV.move rfl) ?_
    refine LW.pure rfl rfl (RV.len Ts22 rfl) ?_
    refine LW.pure rfl rfl (RV.lss rfl rfl) ?_
    refine LW.nil (hK7 _ _ ?_)
    by_cases hp1 : t4_1 < ((a0.length : Int))
    ·
      replace F := ite_y hp1 F
      have hq1 := dec_t hp1
      refine CW.condT rfl hq1 ?_
      refine CW.skip (hK6 _ _ ?_)
      refine CW.seqJ (fun ρ wl3 => (∃ (l2 : List Int), ref04_least_k2 t4_1 rec1 l2 = some res ∧ ρ = [(0, .slice A_a0 a0.length c_a0), (2, .slice none 0 0), (3, .slice A3 l2.length c3), (4, .int .i64 t4_1)] ∧ Hp w wl3 [.own A3 c3 3 1 (List.map encN l2)])) ?_ ?_
      ·
        rintro _ wl3 ⟨l2, F, rfl, H⟩
        have R0 := H.ext
        unfold ref04_least_k2 at F
        obtain ⟨hg2, F⟩ := gd_some F
        refine CW.region ?_
        refine LW.pure rfl rfl (RV.move rfl) ?_
        refine LW.pure rfl rfl (RV.add rfl rfl hg2) ?_
        refine LW.pure rfl rfl (RV.assign rfl) ?_
        refine LW.nil ?_
        subst hrec1
        refine ⟨mk1, Nat.lt_succ_self _, _, ?_, (t4_1 + 1), l2, F, rfl, H⟩
        exact ⟨rfl, rfl, (look_slice rfl (by first | rfl | (simp; done) | (simp; omega))), rfl, trivial⟩
      ·
        intro K8 hK8 jK278
        refine CW.block ?_
        refine CW.seq fun K9 hK9 => ?_
        refine CW.region ?_
        refine LW.pure rfl rfl (RV.assign rfl) ?_
        refine LW.nil (hK9 _ _ ?_)
        refine CW.block ?_
        refine CW.loop (fun meas ρ wl4 => ∃ (t5_1 : Int) (l3 : List Int), ref04_least_L1 a0 t4_1 rec1 meas t5_1 l3 = some res ∧ ρ = [(0, .slice A_a0 a0.length c_a0), (2, .slice none 0 0), (3, .slice A3 l3.length c3), (4, .int .i64 t4_1), (5, .int .i64 t5_1)] ∧ Hp w wl4 [.own A3 c3 3 1 (List.map encN l3)]) FU ⟨_, ?_, ((0 : Int)), l4, F, rfl, H⟩ ?_
        · exact ⟨rfl, rfl, (look_slice rfl (by first | rfl | (simp; done) | (simp; omega))), rfl, rfl, trivial⟩
        rintro mk2 _ wl4 ⟨t5_1, l3, F, rfl, H⟩
        have R0 := H.ext
        replace F := ref04_least_L1_s F
        obtain ⟨mk2, rfl, F⟩ := F
        generalize hrec2 : ref04_least_L1 a0 t4_1 rec1 mk2 = rec2 at F
        unfold ref04_least_B1 at F
        refine CW.seq fun K10 hK10 => ?_
        refine CW.seq fun K11 hK11 => ?_
        refine CW.region ?_
        refine LW.pure rfl rfl (RV.move rfl) ?_
        refine LW.pure rfl rfl (RV.move rfl) ?_
        refine LW.pure rfl rfl (RV.len Ts25 rfl) ?_
        refine LW.pure rfl rfl (RV.lss rfl rfl) ?_
        refine LW.nil (hK11 _ _ ?_)
        by_cases hp2 : t5_1 < ((l3.length : Int))
        ·
          replace F := ite_y hp2 F
          have hq2 := dec_t hp2
          refine CW.condT rfl hq2 ?_
          refine CW.skip (hK10 _ _ ?_)
          refine CW.seq fun K12 hK12 => ?_
          refine CW.block ?_
          obtain ⟨x1, hbx1, hx1, F⟩ := ix_some F
          obtain ⟨x2, hbx2, hx2, F⟩ := ix_some F
          obtain ⟨x3, hbx3, hx3, F⟩ := ix_some F
          obtain ⟨x4, hbx4, hx4, F⟩ := ix_some F
          refine CW.draw [15] (fun _ => True) (.cons 0 1 (.cons 1 1 (.cons 2 1 (.cons 3 1 (.cons 4 1 (.cons 5 1 (.cons 6 1 (.cons 7 1 (.cons 8 1 (.cons 9 1 (.cons 10 1 (.cons 11 1 (.cons 12 1 (.cons 13 1 (.cons 14 1 (.cons 15 0 .nil)))))))))))))))) mixed (by kernel_rfl) fun w3 E1 => ?_
          replace H := H.grow E1
          replace R0 := H.ext
          refine DW.fix rfl rfl rfl (fun _ EQ => RV.move rfl) ?_
          refine DW.fix rfl rfl rfl (fun _ EQ => RV.move rfl) ?_
          refine DW.fix rfl rfl rfl (fun _ EQ => RV.move rfl) ?_
          refine DW.fix rfl rfl rfl (fun _ EQ => RV.move rfl) ?_
          refine DW.fix rfl rfl rfl (fun _ EQ => RV.indexAddr Ts25 rfl rfl hbx1 ((H.own 0 rfl).sl.addr_ hx1)) ?_
          refine DW.fix rfl rfl rfl (fun _ EQ => RV.load1 Tk3 rfl (((H.grow EQ).own 0 rfl).sl.at_ hx1) rfl) ?_
          refine DW.fix rfl rfl rfl (fun _ EQ => RV.move rfl) ?_
          refine DW.fix rfl rfl rfl (fun _ EQ => RV.move rfl) ?_
          obtain ⟨A4, c4, hC2, hS2⟩ := h_a0.at_ hx2
          refine DW.fix rfl rfl rfl (fun _ EQ => RV.indexAddr Ts22 rfl rfl hbx2 (h_a0.addr hbx2)) ?_
          refine DW.fix rfl rfl rfl (fun _ EQ => RV.load1 Tk25 rfl (hC2.ext (R0.trans EQ)) rfl) ?_
          refine DW.fix rfl rfl rfl (fun _ EQ => RV.move rfl) ?_
          refine DW.fix rfl rfl rfl (fun _ EQ => RV.indexAddr Ts25 rfl rfl hbx3 (hS2.addr_ hx3)) ?_
          refine DW.fix rfl rfl rfl (fun _ EQ => RV.load1 Tk3 rfl ((hS2.at_ hx3).ext (R0.trans EQ)) rfl) ?_
          refine DW.fix rfl rfl rfl (fun _ EQ => RV.min2 rfl rfl) ?_
          refine DW.fix rfl rfl rfl (fun _ EQ => RV.indexAddr Ts25 rfl rfl hbx4 ((H.own 0 rfl).sl.addr_ hx4)) ?_
          refine DW.sole rfl rfl rfl (OW.storeO (enc := encN) (vs := [.int .i64 (min x1 x3)]) 0 (min x1 x3) Tk3 rfl rfl (H.own 0 rfl) (fun _ => rfl) rfl hx4 rfl rfl (by decide) rfl rfl fun w4 M2 O2 => ?_)
          refine ⟨fun h => absurd h (by decide), M2.modx (fun _ _ => trivial), ?_⟩
          replace H : Hp w w4 [.own A3 c3 3 1 (List.map encN ((l3.set (Int.toNat t5_1) (min x1 x3))))] := H.mod 0 rfl M2 O2 (.inl rfl)
          replace R0 := H.ext
          refine DW.nil (hK12 _ _ ?_)
          obtain ⟨hg3, F⟩ := gd_some F
          refine CW.region ?_
          refine LW.pure rfl rfl (RV.move rfl) ?_
          refine LW.pure rfl rfl (RV.add rfl rfl hg3) ?_
          refine LW.pure rfl rfl (RV.assign rfl) ?_
          refine LW.nil ?_
          subst hrec2
          refine ⟨mk2, Nat.lt_succ_self _, _, ?_, (t5_1 + 1), ((l3.set (Int.toNat t5_1) (min x1 x3))), F, rfl, H⟩
          exact ⟨rfl, rfl, (look_slice rfl (by first | rfl | (simp; done) | (simp; omega))), rfl, rfl, trivial⟩
        ·
          replace F := ite_n hp2 F
          have hq2 := dec_f hp2
          refine CW.condF rfl hq2 ?_
          refine CW.exit (jK278 _ _ ⟨_, ?_, ⟨l3, F, rfl, H⟩⟩)
          exact ⟨rfl, rfl, (look_slice rfl (by first | rfl | (simp; done) | (simp; omega))), rfl, trivial⟩
    ·
      replace F := ite_n hp1 F
      have hq1 := dec_f hp1
      refine CW.condF rfl hq1 ?_
      refine CW.exit (jK218 _ _ ⟨_, ?_, ⟨l4, F, rfl, H⟩⟩)
      exact ⟨rfl, (look_slice rfl (by first | rfl | (simp; done) | (simp; omega))), trivial⟩

end Go.D4

set_option linter.unusedVariables false
namespace Go.D4
open Go.Tb




def ref04_Both (a0 : Bog) (a1 : List Int) (a2 : List Int) : Option ((List Int) × Int) :=
  bnd (ref04_two a0 a1 a2) fun r1 =>
  if r1 = 0 then
    bnd (ref04_least (([a1, a2] : List (List Int)))) fun r2 =>
    some (r2, (0 : Int))
  else
    some (([] : List Int), r1)
def cut_greater (a0 : Int) (a1 : Int) : Option Int :=
  some (max a0 a1)
def cut_Either (a0 : Bog) (a1 : List Int) (a2 : List Int) : Option ((List Int) × Int) :=
  bnd (cut_two a0 a1 a2) fun r1 =>
  if r1 = 0 then
    bnd (cut_joined a1 a2 cut_greater) fun r2 =>
    some (r2, (0 : Int))
  else
    some (([] : List Int), r1)
def ref04_most_k1 (l1 : List Int) : Option ((List Int)) :=
  some l1
def ref04_most_k2 (t4_1 : Int) (rec1 : Int → (List Int) → Option ((List Int))) (l2 : List Int) : Option ((List Int)) :=
  gd (InR (t4_1 + 1)) <|
  rec1 ((t4_1 + 1)) l2
def ref04_most_B1 (a0 : List (List Int)) (t4_1 : Int) (rec1 : Int → (List Int) → Option ((List Int))) (rec2 : Int → (List Int) → Option ((List Int))) (t5_1 : Int) (l3 : List Int) : Option ((List Int)) :=
  if t5_1 < ((l3.length : Int)) then
    ix l3 t5_1 fun x1 =>
    ix a0 t4_1 fun x2 =>
    ix x2 t5_1 fun x3 =>
    ix l3 t5_1 fun x4 =>
    gd (InR (t5_1 + 1)) <|
    rec2 ((t5_1 + 1)) (((l3.set (Int.toNat t5_1) (max x1 x3))))
  else
    ref04_most_k2 t4_1 rec1 l3
def ref04_most_L1 (a0 : List (List Int)) (t4_1 : Int) (rec1 : Int → (List Int) → Option ((List Int))) : Nat → Int → (List Int) → Option ((List Int))
  | 0, _, _ => none
  | n_ + 1, t5_1, l3 => ref04_most_B1 a0 t4_1 rec1 (ref04_most_L1 a0 t4_1 rec1 n_) t5_1 l3
theorem ref04_most_L1_s {a0 : List (List Int)} {t4_1 : Int} {rec1 : Int → (List Int) → Option ((List Int))} {m_ : Nat} {t5_1 : Int} {l3 : List Int} {res : (List Int)} (h : ref04_most_L1 a0 t4_1 rec1 m_ t5_1 l3 = some res) : ∃ k, m_ = k + 1 ∧ ref04_most_B1 a0 t4_1 rec1 (ref04_most_L1 a0 t4_1 rec1 k) t5_1 l3 = some res := by
  cases m_ with
  | zero => cases h
  | succ k => exact ⟨k, rfl, h⟩
def ref04_most_B2 (a0 : List (List Int)) (rec1 : Int → (List Int) → Option ((List Int))) (t4_1 : Int) (l4 : List Int) : Option ((List Int)) :=
  if t4_1 < ((a0.length : Int)) then
    ref04_most_L1 a0 t4_1 rec1 FU (((0 : Int))) l4
  else
    ref04_most_k1 l4
def ref04_most_L2 (a0 : List (List Int)) : Nat → Int → (List Int) → Option ((List Int))
  | 0, _, _ => none
  | n_ + 1, t4_1, l4 => ref04_most_B2 a0 (ref04_most_L2 a0 n_) t4_1 l4
theorem ref04_most_L2_s {a0 : List (List Int)} {m_ : Nat} {t4_1 : Int} {l4 : List Int} {res : (List Int)} (h : ref04_most_L2 a0 m_ t4_1 l4 = some res) : ∃ k, m_ = k + 1 ∧ ref04_most_B2 a0 (ref04_most_L2 a0 k) t4_1 l4 = some res := by
  cases m_ with
  | zero => cases h
  | succ k => exact ⟨k, rfl, h⟩
def ref04_most (a0 : List (List Int)) : Option ((List Int)) :=
  ix a0 0 fun x5 =>
  gd ((([] : List Int)).length + x5.length ≤ 1000000) <|
  ref04_most_L2 a0 FU (((0 : Int))) (((([] : List Int) ++ x5)))
def ref04_Either (a0 : Bog) (a1 : List Int) (a2 : List Int) : Option ((List Int) × Int) :=
  bnd (ref04_two a0 a1 a2) fun r1 =>
  if r1 = 0 then
    bnd (ref04_most (([a1, a2] : List (List Int)))) fun r2 =>
    some (r2, (0 : Int))
  else
    some (([] : List Int), r1)
def law04_CutJoins_k1 (a0 : Bog) (a1 : List Int) (a2 : List Int) (r1 : (List Int) × Int) (r2 : (List Int) × Int) (t76_1 : Bool) : Option Bool :=
  if t76_1 = true then
    some false
  else
    if r1.2 = 0 then
      bnd (cut_Worth a0 r1.1) fun r3 =>
      bnd (cut_Worth a0 r2.1) fun r4 =>
      bnd (cut_Worth a0 a1) fun r5 =>
      bnd (cut_Worth a0 a2) fun r6 =>
      if r3.2 = 0 then
        if r4.2 = 0 then
          gd (InR (r3.1 + r4.1)) <|
          gd (InR (r5.1 + r6.1)) <|
          if (r3.1 + r4.1) = (r5.1 + r6.1) then
            bnd (law04_sane) fun r7 =>
            some r7
          else
            some false
        else
          some false
      else
        some false
    else
      bnd (law04_sane) fun r8 =>
      some r8
def law04_CutJoins (a0 : Bog) (a1 : List Int) (a2 : List Int) : Option Bool :=
  bnd (law04_Long a0 (([a1, a2] : List (List Int)))) fun r9 =>
  if r9 = true then
    bnd (law04_sane) fun r10 =>
    some r10
  else
    bnd (cut_Both a0 a1 a2) fun r1 =>
    bnd (ref04_Both a0 a1 a2) fun r11 =>
    bnd (cut_Either a0 a1 a2) fun r2 =>
    bnd (ref04_Either a0 a1 a2) fun r12 =>
    bnd (ref04_SameInts r1.1 r11.1) fun r13 =>
    if r13 = true then
      if r1.2 = r11.2 then
        bnd (ref04_SameInts r2.1 r12.1) fun r14 =>
        if r14 = true then
          law04_CutJoins_k1 a0 a1 a2 r1 r2 ((!(decide (r2.2 = r12.2))))
        else
          law04_CutJoins_k1 a0 a1 a2 r1 r2 true
      else
        law04_CutJoins_k1 a0 a1 a2 r1 r2 true
    else
      law04_CutJoins_k1 a0 a1 a2 r1 r2 true
end Go.D4

set_option linter.unusedVariables false
set_option linter.unusedSimpArgs false
namespace Go.D4
open Go.Tb Go.Proofs Go.RowKit

theorem Tc39 : callable Try.prog 39 = true := by kernel_rfl
theorem Tc40 : callable Try.prog 40 = true := by kernel_rfl
theorem Tc41 : callable Try.prog 41 = true := by kernel_rfl
theorem Tc42 : callable Try.prog 42 = true := by kernel_rfl
theorem Tc76 : callable Try.prog 76 = true := by kernel_rfl
theorem Tc77 : callable Try.prog 77 = true := by kernel_rfl
theorem Tc78 : callable Try.prog 78 = true := by kernel_rfl
theorem Tc85 : callable Try.prog 85 = true := by kernel_rfl

set_option maxRecDepth 20000 in
set_option maxHeartbeats 1000000 in
theorem ref04_Both_ok {a0 : Bog} {a1 : List Int} {a2 : List Int} {A_a0_worth : Option Addr} {c_a0_worth : Nat} {A_a1 : Option Addr} {c_a1 : Nat} {A_a2 : Option Addr} {c_a2 : Nat} {w : World} {res : (List Int) × Int} (h_a0_worth : Sl2 w A_a0_worth c_a0_worth 1 encN a0.worth) (h_a1 : Sl w A_a1 c_a1 1 (a1.map encN)) (h_a2 : Sl w A_a2 c_a2 1 (a2.map encN)) (F : ref04_Both a0 a1 a2 = some res) : Calls Try.prog 40 #[.agg #[.slice A_a0_worth a0.worth.length c_a0_worth], .slice A_a1 a1.length c_a1, .slice A_a2 a2.length c_a2] w (fun e w' => ∃ (A0 : Option Addr) (c0 : Nat), e = .returned (.tuple #[.slice A0 res.1.length c0, .int .i64 res.2]) ∧ Hp w w' [.own A0 c0 3 1 (List.map encN res.1)]) := by
  refine calls_of_cw (args := [.agg #[.slice A_a0_worth a0.worth.length c_a0_worth], .slice A_a1 a1.length c_a1, .slice A_a2 a2.length c_a2]) Try.func40 rfl rfl rfl rfl ?_
  have H := Hp.start w
  have R0 := H.ext
  unfold ref04_Both at F
  refine CW.seq fun K1 hK1 => ?_
  refine CW.region ?_
  refine LW.go rfl rfl (OW.box rfl fun b1 w1 N1 => ?_)
  replace H := H.new N1 N1.blk
  replace R0 := H.ext
  refine LW.pure rfl rfl (RV.assign rfl) ?_
  refine LW.pure rfl rfl (RV.assign rfl) ?_
  refine LW.nil (hK1 _ _ ?_)
  refine CW.seq fun K2 hK2 => ?_
  obtain ⟨r1, hr1, F⟩ := bnd_some F
  refine CW.region ?_
  refine LW.pure rfl rfl (RV.loadA [.slice A_a0_worth a0.worth.length c_a0_worth] Tk24 rfl (H.blk 0 rfl).cells rfl rfl) ?_
  refine LW.pure rfl rfl (RV.move rfl) ?_
  refine LW.pure rfl rfl (RV.move rfl) ?_
  refine LW.go rfl rfl (OW.call Tc85 rfl (ref04_two_ok (a0 := a0) (a1 := a1) (a2 := a2) (h_a0_worth.ext R0) (h_a1.ext R0) (h_a2.ext R0) hr1) ?_)
  rintro _ w2 ⟨rfl, E1⟩
  refine ⟨_, rfl, ?_⟩
  replace H := H.grow E1
  replace R0 := H.ext
  refine LW.pure rfl rfl (RV.assign rfl) ?_
  refine LW.nil (hK2 _ _ ?_)
  refine CW.seq fun K3 hK3 => ?_
  refine CW.seq fun K4 hK4 => ?_
  refine CW.region ?_
  refine LW.pure rfl rfl (RV.move rfl) ?_
  refine LW.pure rfl rfl (RV.nei rfl rfl) ?_
  refine LW.nil (hK4 _ _ ?_)
  by_cases hp1 : r1 = 0
  ·
    replace F := ite_y hp1 F
    have hq1 := dec_t hp1
    refine CW.condF rfl (not_f hq1) ?_
    refine CW.skip (hK3 _ _ ?_)
    refine CW.seq fun K5 hK5 => ?_
    obtain ⟨r2, hr2, F⟩ := bnd_some F
    refine CW.region ?_
    refine LW.pure rfl rfl (RV.move rfl) ?_
    refine LW.pure rfl rfl (RV.move rfl) ?_
    refine LW.go rfl rfl (OW.buildSlice (e := 25) (vs := [.slice A_a1 a1.length c_a1, .slice A_a2 a2.length c_a2]) (cs := [.slice A_a1 a1.length c_a1, .slice A_a2 a2.length c_a2]) rfl (fun _ => by kernel_rfl) fun b2 w3 N2 => ?_)
    replace H := H.made' (k := 1) (t := 25) (enc := encH) (l := ([((A_a1, c_a1), a1), ((A_a2, c_a2), a2)] : List ((Option Addr × Nat) × List Int))) N2 (by have q := N2.blk; simp only [List.flatMap_cons, List.flatMap_nil, encH, List.length_nil, List.append_nil, List.cons_append, List.nil_append]; first | done | exact q) (fun _ => rfl) rfl (by first | decide | omega | (simp; done) | (simp; omega))
    replace R0 := H.ext
    have hS23 : Sl2 w3 (some ⟨b2, 0, none⟩) 2 1 encN [a1, a2] := Sl2.two (H.own 0 rfl).sl (h_a1.ext R0) (h_a2.ext R0)
    refine LW.go rfl rfl (OW.call Tc76 (evs_cast rfl (by first | rfl | (simp; done) | (simp; omega))) (ref04_least_ok (a0 := ([a1, a2] : List (List Int))) hS23 hr2) ?_)
    rintro _ w4 ⟨A6_0, c6_0, rfl, E2⟩
    refine ⟨_, rfl, ?_⟩
    have hS23 := hS23.ext E2.ext
    replace H : Hp w w4 [.own A6_0 c6_0 3 1 (List.map encN r2), .own (some ⟨b2, 0, none⟩) ((([((A_a1, c_a1), a1), ((A_a2, c_a2), a2)] : List ((Option Addr × Nat) × List Int))).length) 25 1 (List.map encH (([((A_a1, c_a1), a1), ((A_a2, c_a2), a2)] : List ((Option Addr × Nat) × List Int)))), .blk b1 24 [.slice A_a0_worth a0.worth.length c_a0_worth]] := H.append E2
    replace R0 := H.ext
    refine LW.pure rfl rfl (RV.assign rfl) ?_
    refine LW.pure rfl rfl (RV.assign rfl) ?_
    refine LW.nil (hK5 _ _ ?_)
    refine CW.ret ?_
    obtain rfl := Option.some.inj F
    refine ⟨_, (ResOK.two rfl rfl), ?_⟩
    replace H := H.pick (L' := [.own A6_0 c6_0 3 1 (List.map encN r2)]) [0] (by decide) rfl
    replace R0 := H.ext
    exact ⟨A6_0, c6_0, (by first | rfl | (simp; done) | (simp; omega)), H⟩
  ·
    replace F := ite_n hp1 F
    have hq1 := dec_f hp1
    refine CW.condT rfl (not_t hq1) ?_
    refine CW.seq fun K6 hK6 => ?_
    refine CW.region ?_
    refine LW.pure rfl rfl (RV.move rfl) ?_
    refine LW.pure rfl rfl (RV.assign rfl) ?_
    refine LW.pure rfl rfl (RV.assign rfl) ?_
    refine LW.nil (hK6 _ _ ?_)
    refine CW.ret ?_
    obtain rfl := Option.some.inj F
    refine ⟨_, (ResOK.two rfl rfl), ?_⟩
    replace H := H.nilOwn 3 1
    replace R0 := H.ext
    replace H := H.pick (L' := [.own none 0 3 1 (List.map encN (([] : List Int)))]) [0] (by decide) rfl
    replace R0 := H.ext
    exact ⟨none, 0, (by first | rfl | (simp; done) | (simp; omega)), H⟩

set_option maxRecDepth 20000 in
set_option maxHeartbeats 1000000 in
theorem cut_greater_ok {a0 : Int} {a1 : Int} {w : World} {res : Int} (F : cut_greater a0 a1 = some res) : Calls Try.prog 77 #[.int .i64 a0, .int .i64 a1] w (Rt w (.int .i64 res)) := by
  refine calls_of_cw (args := [.int .i64 a0, .int .i64 a1]) Try.func77 rfl rfl rfl rfl ?_
  have H := Hp.start w
  have R0 := H.ext
  unfold cut_greater at F
  refine CW.seq fun K1 hK1 => ?_
  refine CW.region ?_
  refine LW.pure rfl rfl (RV.assign rfl) ?_
  refine LW.nil (hK1 _ _ ?_)
  refine CW.seq fun K2 hK2 => ?_
  refine CW.region ?_
  refine LW.pure rfl rfl (RV.move rfl) ?_
  refine LW.pure rfl rfl (RV.move rfl) ?_
  refine LW.pure rfl rfl (RV.max2 rfl rfl) ?_
  refine LW.pure rfl rfl (RV.assign rfl) ?_
  refine LW.nil (hK2 _ _ ?_)
  refine CW.ret ?_
  obtain rfl := Option.some.inj F
  refine ⟨_, (ResOK.one rfl), ?_⟩
  refine ⟨(by first | rfl | simp), R0⟩

set_option maxRecDepth 20000 in
set_option maxHeartbeats 1000000 in
theorem cut_Either_ok {a0 : Bog} {a1 : List Int} {a2 : List Int} {A_a0_worth : Option Addr} {c_a0_worth : Nat} {A_a1 : Option Addr} {c_a1 : Nat} {A_a2 : Option Addr} {c_a2 : Nat} {w : World} {res : (List Int) × Int} (h_a0_worth : Sl2 w A_a0_worth c_a0_worth 1 encN a0.worth) (h_a1 : Sl w A_a1 c_a1 1 (a1.map encN)) (h_a2 : Sl w A_a2 c_a2 1 (a2.map encN)) (F : cut_Either a0 a1 a2 = some res) : Calls Try.prog 41 #[.agg #[.slice A_a0_worth a0.worth.length c_a0_worth], .slice A_a1 a1.length c_a1, .slice A_a2 a2.length c_a2] w (fun e w' => ∃ (A0 : Option Addr) (c0 : Nat), e = .returned (.tuple #[.slice A0 res.1.length c0, .int .i64 res.2]) ∧ Hp w w' [.own A0 c0 3 1 (List.map encN res.1)]) := by
  refine calls_of_cw (args := [.agg #[.slice A_a0_worth a0.worth.length c_a0_worth], .slice A_a1 a1.length c_a1, .slice A_a2 a2.length c_a2]) Try.func41 rfl rfl rfl rfl ?_
  have H := Hp.start w
  have R0 := H.ext
  unfold cut_Either at F
  refine CW.seq fun K1 hK1 => ?_
  refine CW.region ?_
  refine LW.go rfl rfl (OW.box rfl fun b1 w1 N1 => ?_)
  replace H := H.new N1 N1.blk
  replace R0 := H.ext
  refine LW.pure rfl rfl (RV.assign rfl) ?_
  refine LW.pure rfl rfl (RV.assign rfl) ?_
  refine LW.nil (hK1 _ _ ?_)
  refine CW.seq fun K2 hK2 => ?_
  refine CW.seq fun K3 hK3 => ?_
  obtain ⟨r1, hr1, F⟩ := bnd_some F
  refine CW.region ?_
  refine LW.pure rfl rfl (RV.loadA [.slice A_a0_worth a0.worth.length c_a0_worth] Tk24 rfl (H.blk 0 rfl).cells rfl rfl) ?_
  refine LW.pure rfl rfl (RV.move rfl) ?_
  refine LW.pure rfl rfl (RV.move rfl) ?_
  refine LW.go rfl rfl (OW.call Tc83 rfl (cut_two_ok (a0 := a0) (a1 := a1) (a2 := a2) (h_a0_worth.ext R0) (h_a1.ext R0) (h_a2.ext R0) hr1) ?_)
  rintro _ w2 ⟨rfl, E1⟩
  refine ⟨_, rfl, ?_⟩
  replace H := H.grow E1
  replace R0 := H.ext
  refine LW.pure rfl rfl (RV.assign rfl) ?_
  refine LW.nil (hK3 _ _ ?_)
  refine CW.seq fun K4 hK4 => ?_
  refine CW.region ?_
  refine LW.pure rfl rfl (RV.move rfl) ?_
  refine LW.pure rfl rfl (RV.nei rfl rfl) ?_
  refine LW.nil (hK4 _ _ ?_)
  by_cases hp1 : r1 = 0
  ·
    replace F := ite_y hp1 F
    have hq1 := dec_t hp1
    refine CW.condF rfl (not_f hq1) ?_
    refine CW.skip (hK2 _ _ ?_)
    refine CW.seq fun K5 hK5 => ?_
    obtain ⟨r2, hr2, F⟩ := bnd_some F
    refine CW.region ?_
    refine LW.pure rfl rfl (RV.move rfl) ?_
    refine LW.pure rfl rfl (RV.move rfl) ?_
    refine LW.go rfl rfl (OW.call Tc84 rfl (cut_joined_ok (a0 := a1) (a1 := a2) (a2 := cut_greater) (h_a1.ext R0) (h_a2.ext R0) (fun x0 x1 r hF w3 hE => CallsV.of Tc77 (cut_greater_ok (a0 := x0) (a1 := x1) hF)) hr2) ?_)
    rintro _ w4 ⟨A6_0, c6_0, rfl, E2⟩
    refine ⟨_, rfl, ?_⟩
    replace H : Hp w w4 [.own A6_0 c6_0 3 1 (List.map encN r2), .blk b1 24 [.slice A_a0_worth a0.worth.length c_a0_worth]] := H.append E2
    replace R0 := H.ext
    refine LW.pure rfl rfl (RV.assign rfl) ?_
    refine LW.pure rfl rfl (RV.assign rfl) ?_
    refine LW.nil (hK5 _ _ ?_)
    refine CW.ret ?_
    obtain rfl := Option.some.inj F
    refine ⟨_, (ResOK.two rfl rfl), ?_⟩
    replace H := H.pick (L' := [.own A6_0 c6_0 3 1 (List.map encN r2)]) [0] (by decide) rfl
    replace R0 := H.ext
    exact ⟨A6_0, c6_0, (by first | rfl | (simp; done) | (simp; omega)), H⟩
  ·
    replace F := ite_n hp1 F
    have hq1 := dec_f hp1
    refine CW.condT rfl (not_t hq1) ?_
    refine CW.seq fun K6 hK6 => ?_
    refine CW.region ?_
    refine LW.pure rfl rfl (RV.move rfl) ?_
    refine LW.pure rfl rfl (RV.assign rfl) ?_
    refine LW.pure rfl rfl (RV.assign rfl) ?_
    refine LW.nil (hK6 _ _ ?_)
    refine CW.ret ?_
    obtain rfl := Option.some.inj F
    refine ⟨_, (ResOK.two rfl rfl), ?_⟩
    replace H := H.nilOwn 3 1
    replace R0 := H.ext
    replace H := H.pick (L' := [.own none 0 3 1 (List.map encN (([] : List Int)))]) [0] (by decide) rfl
    replace R0 := H.ext
    exact ⟨none, 0, (by first | rfl | (simp; done) | (simp; omega)), H⟩

set_option maxRecDepth 20000 in
set_option maxHeartbeats 1000000 in
theorem ref04_most_ok {a0 : List (List Int)} {A_a0 : Option Addr} {c_a0 : Nat} {w : World} {res : (List Int)} (h_a0 : Sl2 w A_a0 c_a0 1 encN a0) (F : ref04_most a0 = some res) : Calls Try.prog 78 #[.slice A_a0 a0.length c_a0] w (fun e w' => ∃ (A1 : Option Addr) (c1 : Nat), e = .returned (.slice A1 res.length c1) ∧ Hp w w' [.own A1 c1 3 1 (List.map encN res)]) := by
  refine calls_of_cw (args := [.slice A_a0 a0.length c_a0]) Try.func78 rfl rfl rfl rfl ?_
  have H := Hp.start w
  have R0 := H.ext
  unfold ref04_most at F
  refine CW.seq fun K1 hK1 => ?_
  refine CW.region ?_
  refine LW.pure rfl rfl (RV.assign rfl) ?_
  refine LW.nil (hK1 _ _ ?_)
  refine CW.seq fun K2 hK2 => ?_
  obtain ⟨x5, hbx5, hx5, F⟩ := ix_some F
  obtain ⟨hg1, F⟩ := gd_some F
  refine CW.region ?_
  refine LW.go rfl rfl (OW.buildSlice (e := 3) (vs := []) (cs := []) rfl (fun _ => by kernel_rfl) fun b1 w1 N1 => ?_)
  replace H := H.made' (k := 1) (t := 3) (enc := encN) (l := ([] : List Int)) N1 N1.blk (fun _ => rfl) rfl (by first | decide | omega | (simp; done) | (simp; omega))
  replace R0 := H.ext
  refine LW.pure rfl rfl (RV.move rfl) ?_
  obtain ⟨A2, c2, hC1, hS1⟩ := h_a0.at_ hx5
  refine LW.pure rfl rfl (RV.indexAddr Ts22 rfl rfl hbx5 (h_a0.addr hbx5)) ?_
  refine LW.pure rfl rfl (RV.load1 Tk25 rfl (hC1.ext R0) rfl) ?_
  refine LW.go rfl rfl (OW.appendG (enc := encN) (l := ([] : List Int)) (xs := x5) Ts25 (look_slice rfl (by first | rfl | (simp; done) | (simp; omega))) rfl (H.own 0 rfl) (hS1.ext R0) (fun _ => rfl) rfl rfl hg1 (by decide) fun A3 c3 w2 O1 M1 D1 => ?_)
  replace H : Hp w w2 [.own A3 c3 3 1 (List.map encN ((([] : List Int) ++ x5)))] := H.mod 0 rfl M1 O1 D1
  replace R0 := H.ext
  refine LW.pure rfl rfl (RV.assign rfl) ?_
  refine LW.nil (hK2 _ _ ?_)
  refine CW.seqJ (fun ρ wl1 => (∃ (l1 : List Int), ref04_most_k1 l1 = some res ∧ ρ = [(2, .slice none 0 0), (3, .slice A3 l1.length c3)] ∧ Hp w wl1 [.own A3 c3 3 1 (List.map encN l1)])) ?_ ?_
  ·
    rintro _ wl1 ⟨l1, F, rfl, H⟩
    have R0 := H.ext
    unfold ref04_most_k1 at F
    refine CW.seq fun K3 hK3 => ?_
    refine CW.region ?_
    refine LW.pure rfl rfl (RV.move rfl) ?_
    refine LW.pure rfl rfl (RV.assign rfl) ?_
    refine LW.nil (hK3 _ _ ?_)
    refine CW.ret ?_
    obtain rfl := Option.some.inj F
    refine ⟨_, (ResOK.one rfl), ?_⟩
    exact ⟨A3, c3, (by first | rfl | (simp; done) | (simp; omega)), H⟩
  ·
    intro K4 hK4 jK218
    refine CW.seq fun K5 hK5 => ?_
    refine CW.region ?_
    refine LW.pure rfl rfl (RV.assign rfl) ?_
    refine LW.nil (hK5 _ _ ?_)
    refine CW.block ?_
    refine CW.loop (fun meas ρ wl2 => ∃ (t4_1 : Int) (l4 : List Int), ref04_most_L2 a0 meas t4_1 l4 = some res ∧ ρ = [(0, .slice A_a0 a0.length c_a0), (2, .slice none 0 0), (3, .slice A3 l4.length c3), (4, .int .i64 t4_1)] ∧ Hp w wl2 [.own A3 c3 3 1 (List.map encN l4)]) FU ⟨_, ?_, ((0 : Int)), ((([] : List Int) ++ x5)), F, rfl, H⟩ ?_
    · exact ⟨rfl, rfl, (look_slice rfl (by first | rfl | (simp; done) | (simp; omega))), rfl, trivial⟩
    rintro mk1 _ wl2 ⟨t4_1, l4, F, rfl, H⟩
    have R0 := H.ext
    replace F := ref04_most_L2_s F
    obtain ⟨mk1, rfl, F⟩ := F
    generalize hrec1 : ref04_most_L2 a0 mk1 = rec1 at F
    unfold ref04_most_B2 at F
    refine CW.seq fun K6 hK6 => ?_
    refine CW.seq fun K7 hK7 => ?_
    refine CW.region ?_
    refine LW.pure rfl rfl (RV.move rfl) ?_
    refine LW.pure rfl rfl (RV.move rfl) ?_
    refine LW.pure rfl rfl (RV.len Ts22 rfl) ?_
    refine LW.pure rfl rfl (RV.lss rfl rfl) ?_
    refine LW.nil (hK7 _ _ ?_)
    by_cases hp1 : t4_1 < ((a0.length : Int))
    ·
      replace F := ite_y hp1 F
      have hq1 := dec_t hp1
      refine CW.condT rfl hq1 ?_
      refine CW.skip (hK6 _ _ ?_)
      refine CW.seqJ (fun ρ wl3 => (∃ (l2 : List Int), ref04_most_k2 t4_1 rec1 l2 = some res ∧ ρ = [(0, .slice A_a0 a0.length c_a0), (2, .slice none 0 0), (3, .slice A3 l2.length c3), (4, .int .i64 t4_1)] ∧ Hp w wl3 [.own A3 c3 3 1 (List.map encN l2)])) ?_ ?_
      ·
        rintro _ wl3 ⟨l2, F, rfl, H⟩
        have R0 := H.ext
        unfold ref04_most_k2 at F
        obtain ⟨hg2, F⟩ := gd_some F
        refine CW.region ?_
        refine LW.pure rfl rfl (RV.move rfl) ?_
        refine LW.pure rfl rfl (RV.add rfl rfl hg2) ?_
        refine LW.pure rfl rfl (RV.assign rfl) ?_
        refine LW.nil ?_
        subst hrec1
        refine ⟨mk1, Nat.lt_succ_self _, _, ?_, (t4_1 + 1), l2, F, rfl, H⟩
        exact ⟨rfl, rfl, (look_slice rfl (by first | rfl | (simp; done) | (simp; omega))), rfl, trivial⟩
      ·
        intro K8 hK8 jK278
        refine CW.block ?_
        refine CW.seq fun K9 hK9 => ?_
        refine CW.region ?_
        refine LW.pure rfl rfl (RV.assign rfl) ?_
        refine LW.nil (hK9 _ _ ?_)
        refine CW.block ?_
        refine CW.loop (fun meas ρ wl4 => ∃ (t5_1 : Int) (l3 : List Int), ref04_most_L1 a0 t4_1 rec1 meas t5_1 l3 = some res ∧ ρ = [(0, .slice A_a0 a0.length c_a0), (2, .slice none 0 0), (3, .slice A3 l3.length c3), (4, .int .i64 t4_1), (5, .int .i64 t5_1)] ∧ Hp w wl4 [.own A3 c3 3 1 (List.map encN l3)]) FU ⟨_, ?_, ((0 : Int)), l4, F, rfl, H⟩ ?_
        · exact ⟨rfl, rfl, (look_slice rfl (by first | rfl | (simp; done) | (simp; omega))), rfl, rfl, trivial⟩
        rintro mk2 _ wl4 ⟨t5_1, l3, F, rfl, H⟩
        have R0 := H.ext
        replace F := ref04_most_L1_s F
        obtain ⟨mk2, rfl, F⟩ := F
        generalize hrec2 : ref04_most_L1 a0 t4_1 rec1 mk2 = rec2 at F
        unfold ref04_most_B1 at F
        refine CW.seq fun K10 hK10 => ?_
        refine CW.seq fun K11 hK11 => ?_
        refine CW.region ?_
        refine LW.pure rfl rfl (RV.move rfl) ?_
        refine LW.pure rfl rfl (RV.move rfl) ?_
        refine LW.pure rfl rfl (RV.len Ts25 rfl) ?_
        refine LW.pure rfl rfl (RV.lss rfl rfl) ?_
        refine LW.nil (hK11 _ _ ?_)
        by_cases hp2 : t5_1 < ((l3.length : Int))
        ·
          replace F := ite_y hp2 F
          have hq2 := dec_t hp2
          refine CW.condT rfl hq2 ?_
          refine CW.skip (hK10 _ _ ?_)
          refine CW.seq fun K12 hK12 => ?_
          refine CW.block ?_
          obtain ⟨x1, hbx1, hx1, F⟩ := ix_some F
          obtain ⟨x2, hbx2, hx2, F⟩ := ix_some F
          obtain ⟨x3, hbx3, hx3, F⟩ := ix_some F
          obtain ⟨x4, hbx4, hx4, F⟩ := ix_some F
          refine CW.draw [15] (fun _ => True) (.cons 0 1 (.cons 1 1 (.cons 2 1 (.cons 3 1 (.cons 4 1 (.cons 5 1 (.cons 6 1 (.cons 7 1 (.cons 8 1 (.cons 9 1 (.cons 10 1 (.cons 11 1 (.cons 12 1 (.cons 13 1 (.cons 14 1 (.cons 15 0 .nil)))))))))))))))) mixed (by kernel_rfl) fun w3 E1 => ?_
          replace H := H.grow E1
          replace R0 := H.ext
          refine DW.fix rfl rfl rfl (fun _ EQ => RV.move rfl) ?_
          refine DW.fix rfl rfl rfl (fun _ EQ => RV.move rfl) ?_
          refine DW.fix rfl rfl rfl (fun _ EQ => RV.move rfl) ?_
          refine DW.fix rfl rfl rfl (fun _ EQ => RV.move rfl) ?_
          refine DW.fix rfl rfl rfl (fun _ EQ => RV.indexAddr Ts25 rfl rfl hbx1 ((H.own 0 rfl).sl.addr_ hx1)) ?_
          refine DW.fix rfl rfl rfl (fun _ EQ => RV.load1 Tk3 rfl (((H.grow EQ).own 0 rfl).sl.at_ hx1) rfl) ?_
          refine DW.fix rfl rfl rfl (fun _ EQ => RV.move rfl) ?_
          refine DW.fix rfl rfl rfl (fun _ EQ => RV.move rfl) ?_
          obtain ⟨A4, c4, hC2, hS2⟩ := h_a0.at_ hx2
          refine DW.fix rfl rfl rfl (fun _ EQ => RV.indexAddr Ts22 rfl rfl hbx2 (h_a0.addr hbx2)) ?_
          refine DW.fix rfl rfl rfl (fun _ EQ => RV.load1 Tk25 rfl (hC2.ext (R0.trans EQ)) rfl) ?_
          refine DW.fix rfl rfl rfl (fun _ EQ => RV.move rfl) ?_
          refine DW.fix rfl rfl rfl (fun _ EQ => RV.indexAddr Ts25 rfl rfl hbx3 (hS2.addr_ hx3)) ?_
          refine DW.fix rfl rfl rfl (fun _ EQ => RV.load1 Tk3 rfl ((hS2.at_ hx3).ext (R0.trans EQ)) rfl) ?_
          refine DW.fix rfl rfl rfl (fun _ EQ => RV.max2 rfl rfl) ?_
          refine DW.fix rfl rfl rfl (fun _ EQ => RV.indexAddr Ts25 rfl rfl hbx4 ((H.own 0 rfl).sl.addr_ hx4)) ?_
          refine DW.sole rfl rfl rfl (OW.storeO (enc := encN) (vs := [.int .i64 (max x1 x3)]) 0 (max x1 x3) Tk3 rfl rfl (H.own 0 rfl) (fun _ => rfl) rfl hx4 rfl rfl (by decide) rfl rfl fun w4 M2 O2 => ?_)
          refine ⟨fun h => absurd h (by decide), M2.modx (fun _ _ => trivial), ?_⟩
          replace H : Hp w w4 [.own A3 c3 3 1 (List.map encN ((l3.set (Int.toNat t5_1) (max x1 x3))))] := H.mod 0 rfl M2 O2 (.inl rfl)
          replace R0 := H.ext
          refine DW.nil (hK12 _ _ ?_)
          obtain ⟨hg3, F⟩ := gd_some F
          refine CW.region ?_
          refine LW.pure rfl rfl (RV.move rfl) ?_
          refine LW.pure rfl rfl (RV.add rfl rfl hg3) ?_
          refine LW.pure rfl rfl (RV.assign rfl) ?_
          refine LW.nil ?_
          subst hrec2
          refine ⟨mk2, Nat.lt_succ_self _, _, ?_, (t5_1 + 1), ((l3.set (Int.toNat t5_1) (max x1 x3))), F, rfl, H⟩
          exact ⟨rfl, rfl, (look_slice rfl (by first | rfl | (simp; done) | (simp; omega))), rfl, rfl, trivial⟩
        ·
          replace F := ite_n hp2 F
          have hq2 := dec_f hp2
          refine CW.condF rfl hq2 ?_
          refine CW.exit (jK278 _ _ ⟨_, ?_, ⟨l3, F, rfl, H⟩⟩)
          exact ⟨rfl, rfl, (look_slice rfl (by first | rfl | (simp; done) | (simp; omega))), rfl, trivial⟩
    ·
      replace F := ite_n hp1 F
      have hq1 := dec_f hp1
      refine CW.condF rfl hq1 ?_
      refine CW.exit (jK218 _ _ ⟨_, ?_, ⟨l4, F, rfl, H⟩⟩)
      exact ⟨rfl, (look_slice rfl (by first | rfl | (simp; done) | (simp; omega))), trivial⟩

set_option maxRecDepth 20000 in
set_option maxHeartbeats 1000000 in
theorem ref04_Either_ok {a0 : Bog} {a1 : List Int} {a2 : List Int} {A_a0_worth : Option Addr} {c_a0_worth : Nat} {A_a1 : Option Addr} {c_a1 : Nat} {A_a2 : Option Addr} {c_a2 : Nat} {w : World} {res : (List Int) × Int} (h_a0_worth : Sl2 w A_a0_worth c_a0_worth 1 encN a0.worth) (h_a1 : Sl w A_a1 c_a1 1 (a1.map encN)) (h_a2 : Sl w A_a2 c_a2 1 (a2.map encN)) (F : ref04_Either a0 a1 a2 = some res) : Calls Try.prog 42 #[.agg #[.slice A_a0_worth a0.worth.length c_a0_worth], .slice A_a1 a1.length c_a1, .slice A_a2 a2.length c_a2] w (fun e w' => ∃ (A0 : Option Addr) (c0 : Nat), e = .returned (.tuple #[.slice A0 res.1.length c0, .int .i64 res.2]) ∧ Hp w w' [.own A0 c0 3 1 (List.map encN res.1)]) := by
  refine calls_of_cw (args := [.agg #[.slice A_a0_worth a0.worth.length c_a0_worth], .slice A_a1 a1.length c_a1, .slice A_a2 a2.length c_a2]) Try.func42 rfl rfl rfl rfl ?_
  have H := Hp.start w
  have R0 := H.ext
  unfold ref04_Either at F
  refine CW.seq fun K1 hK1 => ?_
  refine CW.region ?_
  refine LW.go rfl rfl (OW.box rfl fun b1 w1 N1 => ?_)
  replace H := H.new N1 N1.blk
  replace R0 := H.ext
  refine LW.pure rfl rfl (RV.assign rfl) ?_
  refine LW.pure rfl rfl (RV.assign rfl) ?_
  refine LW.nil (hK1 _ _ ?_)
  refine CW.seq fun K2 hK2 => ?_
  obtain ⟨r1, hr1, F⟩ := bnd_some F
  refine CW.region ?_
  refine LW.pure rfl rfl (RV.loadA [.slice A_a0_worth a0.worth.length c_a0_worth] Tk24 rfl (H.blk 0 rfl).cells rfl rfl) ?_
  refine LW.pure rfl rfl (RV.move rfl) ?_
  refine LW.pure rfl rfl (RV.move rfl) ?_
  refine LW.go rfl rfl (OW.call Tc85 rfl (ref04_two_ok (a0 := a0) (a1 := a1) (a2 := a2) (h_a0_worth.ext R0) (h_a1.ext R0) (h_a2.ext R0) hr1) ?_)
  rintro _ w2 ⟨rfl, E1⟩
  refine ⟨_, rfl, ?_⟩
  replace H := H.grow E1
  replace R0 := H.ext
  refine LW.pure rfl rfl (RV.assign rfl) ?_
  refine LW.nil (hK2 _ _ ?_)
  refine CW.seq fun K3 hK3 => ?_
  refine CW.seq fun K4 hK4 => ?_
  refine CW.region ?_
  refine LW.pure rfl rfl (RV.move rfl) ?_
  refine LW.pure rfl rfl (RV.nei rfl rfl) ?_
  refine LW.nil (hK4 _ _ ?_)
  by_cases hp1 : r1 = 0
  ·
    replace F := ite_y hp1 F
    have hq1 := dec_t hp1
    refine CW.condF rfl (not_f hq1) ?_
    refine CW.skip (hK3 _ _ ?_)
    refine CW.seq fun K5 hK5 => ?_
    obtain ⟨r2, hr2, F⟩ := bnd_some F
    refine CW.region ?_
    refine LW.pure rfl rfl (RV.move rfl) ?_
    refine LW.pure rfl rfl (RV.move rfl) ?_
    refine LW.go rfl rfl (OW.buildSlice (e := 25) (vs := [.slice A_a1 a1.length c_a1, .slice A_a2 a2.length c_a2]) (cs := [.slice A_a1 a1.length c_a1, .slice A_a2 a2.length c_a2]) rfl (fun _ => by kernel_rfl) fun b2 w3 N2 => ?_)
    replace H := H.made' (k := 1) (t := 25) (enc := encH) (l := ([((A_a1, c_a1), a1), ((A_a2, c_a2), a2)] : List ((Option Addr × Nat) × List Int))) N2 (by have q := N2.blk; simp only [List.flatMap_cons, List.flatMap_nil, encH, List.length_nil, List.append_nil, List.cons_append, List.nil_append]; first | done | exact q) (fun _ => rfl) rfl (by first | decide | omega | (simp; done) | (simp; omega))
    replace R0 := H.ext
    have hS23 : Sl2 w3 (some ⟨b2, 0, none⟩) 2 1 encN [a1, a2] := Sl2.two (H.own 0 rfl).sl (h_a1.ext R0) (h_a2.ext R0)
    refine LW.go rfl rfl (OW.call Tc78 (evs_cast rfl (by first | rfl | (simp; done) | (simp; omega))) (ref04_most_ok (a0 := ([a1, a2] : List (List Int))) hS23 hr2) ?_)
    rintro _ w4 ⟨A6_0, c6_0, rfl, E2⟩
    refine ⟨_, rfl, ?_⟩
    have hS23 := hS23.ext E2.ext
    replace H : Hp w w4 [.own A6_0 c6_0 3 1 (List.map encN r2), .own (some ⟨b2, 0, none⟩) ((([((A_a1, c_a1), a1), ((A_a2, c_a2), a2)] : List ((Option Addr × Nat) × List Int))).length) 25 1 (List.map encH (([((A_a1, c_a1), a1), ((A_a2, c_a2), a2)] : List ((Option Addr × Nat) × List Int)))), .blk b1 24 [.slice A_a0_worth a0.worth.length c_a0_worth]] := H.append E2
    replace R0 := H.ext
    refine LW.pure rfl rfl (RV.assign rfl) ?_
    refine LW.pure rfl rfl (RV.assign rfl) ?_
    refine LW.nil (hK5 _ _ ?_)
    refine CW.ret ?_
    obtain rfl := Option.some.inj F
    refine ⟨_, (ResOK.two rfl rfl), ?_⟩
    replace H := H.pick (L' := [.own A6_0 c6_0 3 1 (List.map encN r2)]) [0] (by decide) rfl
    replace R0 := H.ext
    exact ⟨A6_0, c6_0, (by first | rfl | (simp; done) | (simp; omega)), H⟩
  ·
    replace F := ite_n hp1 F
    have hq1 := dec_f hp1
    refine CW.condT rfl (not_t hq1) ?_
    refine CW.seq fun K6 hK6 => ?_
    refine CW.region ?_
    refine LW.pure rfl rfl (RV.move rfl) ?_
    refine LW.pure rfl rfl (RV.assign rfl) ?_
    refine LW.pure rfl rfl (RV.assign rfl) ?_
    refine LW.nil (hK6 _ _ ?_)
    refine CW.ret ?_
    obtain rfl := Option.some.inj F
    refine ⟨_, (ResOK.two rfl rfl), ?_⟩
    replace H := H.nilOwn 3 1
    replace R0 := H.ext
    replace H := H.pick (L' := [.own none 0 3 1 (List.map encN (([] : List Int)))]) [0] (by decide) rfl
    replace R0 := H.ext
    exact ⟨none, 0, (by first | rfl | (simp; done) | (simp; omega)), H⟩

set_option maxRecDepth 20000 in
set_option maxHeartbeats 1000000 in
theorem law04_CutJoins_ok {a0 : Bog} {a1 : List Int} {a2 : List Int} {A_a0_worth : Option Addr} {c_a0_worth : Nat} {A_a1 : Option Addr} {c_a1 : Nat} {A_a2 : Option Addr} {c_a2 : Nat} {w : World} {res : Bool} (h_a0_worth : Sl2 w A_a0_worth c_a0_worth 1 encN a0.worth) (h_a1 : Sl w A_a1 c_a1 1 (a1.map encN)) (h_a2 : Sl w A_a2 c_a2 1 (a2.map encN)) (F : law04_CutJoins a0 a1 a2 = some res) : Calls Try.prog 8 #[.agg #[.slice A_a0_worth a0.worth.length c_a0_worth], .slice A_a1 a1.length c_a1, .slice A_a2 a2.length c_a2] w (Rt w (.bool res)) := by
  refine calls_of_cw (args := [.agg #[.slice A_a0_worth a0.worth.length c_a0_worth], .slice A_a1 a1.length c_a1, .slice A_a2 a2.length c_a2]) Try.func8 rfl rfl rfl rfl ?_
  have H := Hp.start w
  have R0 := H.ext
  unfold law04_CutJoins at F
  refine CW.seq fun K1 hK1 => ?_
  refine CW.region ?_
  refine LW.go rfl rfl (OW.box rfl fun b1 w1 N1 => ?_)
  replace H := H.new N1 N1.blk
  replace R0 := H.ext
  refine LW.pure rfl rfl (RV.assign rfl) ?_
  refine LW.nil (hK1 _ _ ?_)
  refine CW.seq fun K2 hK2 => ?_
  refine CW.seq fun K3 hK3 => ?_
  obtain ⟨r9, hr9, F⟩ := bnd_some F
  refine CW.region ?_
  refine LW.pure rfl rfl (RV.loadA [.slice A_a0_worth a0.worth.length c_a0_worth] Tk24 rfl (H.blk 0 rfl).cells rfl rfl) ?_
  refine LW.pure rfl rfl (RV.move rfl) ?_
  refine LW.pure rfl rfl (RV.move rfl) ?_
  refine LW.go rfl rfl (OW.buildSlice (e := 25) (vs := [.slice A_a1 a1.length c_a1, .slice A_a2 a2.length c_a2]) (cs := [.slice A_a1 a1.length c_a1, .slice A_a2 a2.length c_a2]) rfl (fun _ => by kernel_rfl) fun b2 w2 N2 => ?_)
  replace H := H.made' (k := 1) (t := 25) (enc := encH) (l := ([((A_a1, c_a1), a1), ((A_a2, c_a2), a2)] : List ((Option Addr × Nat) × List Int))) N2 (by have q := N2.blk; simp only [List.flatMap_cons, List.flatMap_nil, encH, List.length_nil, List.append_nil, List.cons_append, List.nil_append]; first | done | exact q) (fun _ => rfl) rfl (by first | decide | omega | (simp; done) | (simp; omega))
  replace R0 := H.ext
  have hS23 : Sl2 w2 (some ⟨b2, 0, none⟩) 2 1 encN [a1, a2] := Sl2.two (H.own 0 rfl).sl (h_a1.ext R0) (h_a2.ext R0)
  refine LW.go rfl rfl (OW.call Tc17 (evs_cast rfl (by first | rfl | (simp; done) | (simp; omega))) (law04_Long_ok (a0 := a0) (a1 := ([a1, a2] : List (List Int))) (h_a0_worth.ext R0) hS23 hr9) ?_)
  rintro _ w3 ⟨rfl, E1⟩
  refine ⟨_, rfl, ?_⟩
  have hS23 := hS23.ext E1
  replace H := H.grow E1
  replace R0 := H.ext
  refine LW.nil (hK3 _ _ ?_)
  by_cases hp1 : r9 = true
  ·
    replace F := ite_y hp1 F
    have hq1 : r9 = true := hp1
    refine CW.condT rfl hq1 ?_
    refine CW.seq fun K4 hK4 => ?_
    obtain ⟨r10, hr10, F⟩ := bnd_some F
    refine CW.region ?_
    refine LW.go rfl rfl (OW.call Tc18 rfl (law04_sane_ok hr10) ?_)
    rintro _ w4 ⟨rfl, E2⟩
    refine ⟨_, rfl, ?_⟩
    have hS23 := hS23.ext E2
    replace H := H.grow E2
    replace R0 := H.ext
    refine LW.pure rfl rfl (RV.assign rfl) ?_
    refine LW.nil (hK4 _ _ ?_)
    refine CW.ret ?_
    obtain rfl := Option.some.inj F
    refine ⟨_, (ResOK.one rfl), ?_⟩
    refine ⟨(by first | rfl | simp), R0⟩
  ·
    replace F := ite_n hp1 F
    have hq1 : r9 = false := raw_f hp1
    refine CW.condF rfl hq1 ?_
    refine CW.skip (hK2 _ _ ?_)
    refine CW.seq fun K5 hK5 => ?_
    obtain ⟨r1, hr1, F⟩ := bnd_some F
    refine CW.region ?_
    refine LW.pure rfl rfl (RV.loadA [.slice A_a0_worth a0.worth.length c_a0_worth] Tk24 rfl (H.blk 1 rfl).cells rfl rfl) ?_
    refine LW.pure rfl rfl (RV.move rfl) ?_
    refine LW.pure rfl rfl (RV.move rfl) ?_
    refine LW.go rfl rfl (OW.call Tc39 rfl (cut_Both_ok (a0 := a0) (a1 := a1) (a2 := a2) (h_a0_worth.ext R0) (h_a1.ext R0) (h_a2.ext R0) hr1) ?_)
    rintro _ w5 ⟨A22_0, c22_0, rfl, E3⟩
    refine ⟨_, rfl, ?_⟩
    have hS23 := hS23.ext E3.ext
    replace H : Hp w w5 [.own A22_0 c22_0 3 1 (List.map encN r1.1), .own (some ⟨b2, 0, none⟩) ((([((A_a1, c_a1), a1), ((A_a2, c_a2), a2)] : List ((Option Addr × Nat) × List Int))).length) 25 1 (List.map encH (([((A_a1, c_a1), a1), ((A_a2, c_a2), a2)] : List ((Option Addr × Nat) × List Int)))), .blk b1 24 [.slice A_a0_worth a0.worth.length c_a0_worth]] := H.append E3
    replace R0 := H.ext
    refine LW.pure rfl rfl (RV.move rfl) ?_
    refine LW.pure rfl rfl (RV.extract rfl rfl) ?_
    refine LW.pure rfl rfl (RV.extract rfl rfl) ?_
    refine LW.pure rfl rfl (RV.assign rfl) ?_
    refine LW.pure rfl rfl (RV.assign rfl) ?_
    refine LW.nil (hK5 _ _ ?_)
    refine CW.seq fun K6 hK6 => ?_
    obtain ⟨r11, hr11, F⟩ := bnd_some F
    refine CW.region ?_
    refine LW.pure rfl rfl (RV.loadA [.slice A_a0_worth a0.worth.length c_a0_worth] Tk24 rfl (H.blk 2 rfl).cells rfl rfl) ?_
    refine LW.pure rfl rfl (RV.move rfl) ?_
    refine LW.pure rfl rfl (RV.move rfl) ?_
    refine LW.go rfl rfl (OW.call Tc40 rfl (ref04_Both_ok (a0 := a0) (a1 := a1) (a2 := a2) (h_a0_worth.ext R0) (h_a1.ext R0) (h_a2.ext R0) hr11) ?_)
    rintro _ w6 ⟨A24_0, c24_0, rfl, E4⟩
    refine ⟨_, rfl, ?_⟩
    have hS23 := hS23.ext E4.ext
    replace H : Hp w w6 [.own A24_0 c24_0 3 1 (List.map encN r11.1), .own A22_0 c22_0 3 1 (List.map encN r1.1), .own (some ⟨b2, 0, none⟩) ((([((A_a1, c_a1), a1), ((A_a2, c_a2), a2)] : List ((Option Addr × Nat) × List Int))).length) 25 1 (List.map encH (([((A_a1, c_a1), a1), ((A_a2, c_a2), a2)] : List ((Option Addr × Nat) × List Int)))), .blk b1 24 [.slice A_a0_worth a0.worth.length c_a0_worth]] := H.append E4
    replace R0 := H.ext
    refine LW.pure rfl rfl (RV.move rfl) ?_
    refine LW.pure rfl rfl (RV.extract rfl rfl) ?_
    refine LW.pure rfl rfl (RV.extract rfl rfl) ?_
    refine LW.pure rfl rfl (RV.assign rfl) ?_
    refine LW.pure rfl rfl (RV.assign rfl) ?_
    refine LW.nil (hK6 _ _ ?_)
    refine CW.seq fun K7 hK7 => ?_
    obtain ⟨r2, hr2, F⟩ := bnd_some F
    refine CW.region ?_
    refine LW.pure rfl rfl (RV.loadA [.slice A_a0_worth a0.worth.length c_a0_worth] Tk24 rfl (H.blk 3 rfl).cells rfl rfl) ?_
    refine LW.pure rfl rfl (RV.move rfl) ?_
    refine LW.pure rfl rfl (RV.move rfl) ?_
    refine LW.go rfl rfl (OW.call Tc41 rfl (cut_Either_ok (a0 := a0) (a1 := a1) (a2 := a2) (h_a0_worth.ext R0) (h_a1.ext R0) (h_a2.ext R0) hr2) ?_)
    rintro _ w7 ⟨A26_0, c26_0, rfl, E5⟩
    refine ⟨_, rfl, ?_⟩
    have hS23 := hS23.ext E5.ext
    replace H : Hp w w7 [.own A26_0 c26_0 3 1 (List.map encN r2.1), .own A24_0 c24_0 3 1 (List.map encN r11.1), .own A22_0 c22_0 3 1 (List.map encN r1.1), .own (some ⟨b2, 0, none⟩) ((([((A_a1, c_a1), a1), ((A_a2, c_a2), a2)] : List ((Option Addr × Nat) × List Int))).length) 25 1 (List.map encH (([((A_a1, c_a1), a1), ((A_a2, c_a2), a2)] : List ((Option Addr × Nat) × List Int)))), .blk b1 24 [.slice A_a0_worth a0.worth.length c_a0_worth]] := H.append E5
    replace R0 := H.ext
    refine LW.pure rfl rfl (RV.move rfl) ?_
    refine LW.pure rfl rfl (RV.extract rfl rfl) ?_
    refine LW.pure rfl rfl (RV.extract rfl rfl) ?_
    refine LW.pure rfl rfl (RV.assign rfl) ?_
    refine LW.pure rfl rfl (RV.assign rfl) ?_
    refine LW.nil (hK7 _ _ ?_)
    refine CW.seq fun K8 hK8 => ?_
    obtain ⟨r12, hr12, F⟩ := bnd_some F
    refine CW.region ?_
    refine LW.pure rfl rfl (RV.loadA [.slice A_a0_worth a0.worth.length c_a0_worth] Tk24 rfl (H.blk 4 rfl).cells rfl rfl) ?_
    refine LW.pure rfl rfl (RV.move rfl) ?_
    refine LW.pure rfl rfl (RV.move rfl) ?_
    refine LW.go rfl rfl (OW.call Tc42 rfl (ref04_Either_ok (a0 := a0) (a1 := a1) (a2 := a2) (h_a0_worth.ext R0) (h_a1.ext R0) (h_a2.ext R0) hr12) ?_)
    rintro _ w8 ⟨A28_0, c28_0, rfl, E6⟩
    refine ⟨_, rfl, ?_⟩
    have hS23 := hS23.ext E6.ext
    replace H : Hp w w8 [.own A28_0 c28_0 3 1 (List.map encN r12.1), .own A26_0 c26_0 3 1 (List.map encN r2.1), .own A24_0 c24_0 3 1 (List.map encN r11.1), .own A22_0 c22_0 3 1 (List.map encN r1.1), .own (some ⟨b2, 0, none⟩) ((([((A_a1, c_a1), a1), ((A_a2, c_a2), a2)] : List ((Option Addr × Nat) × List Int))).length) 25 1 (List.map encH (([((A_a1, c_a1), a1), ((A_a2, c_a2), a2)] : List ((Option Addr × Nat) × List Int)))), .blk b1 24 [.slice A_a0_worth a0.worth.length c_a0_worth]] := H.append E6
    replace R0 := H.ext
    refine LW.pure rfl rfl (RV.move rfl) ?_
    refine LW.pure rfl rfl (RV.extract rfl rfl) ?_
    refine LW.pure rfl rfl (RV.extract rfl rfl) ?_
    refine LW.pure rfl rfl (RV.assign rfl) ?_
    refine LW.pure rfl rfl (RV.assign rfl) ?_
    refine LW.nil (hK8 _ _ ?_)
    refine CW.seq fun K9 hK9 => ?_
    refine CW.seqJ (fun ρ wl1 => (∃ (t76_1 : Bool), law04_CutJoins_k1 a0 a1 a2 r1 r2 t76_1 = some res ∧ ρ = [(1, .slice A_a1 a1.length c_a1), (2, .slice A_a2 a2.length c_a2), (3, .pointer (some (⟨b1, 0, none⟩))), (6, .bool false), (7, .slice A22_0 r1.1.length c22_0), (8, .int .i64 r1.2), (11, .slice A26_0 r2.1.length c26_0), (76, .bool t76_1)] ∧ Hp w wl1 [.own A22_0 c22_0 3 1 (List.map encN r1.1), .own A26_0 c26_0 3 1 (List.map encN r2.1), .blk b1 24 [.slice A_a0_worth a0.worth.length c_a0_worth]])) ?_ ?_
    ·
      rintro _ wl1 ⟨t76_1, F, rfl, H⟩
      have R0 := H.ext
      unfold law04_CutJoins_k1 at F
      by_cases hp2 : t76_1 = true
      ·
        replace F := ite_y hp2 F
        have hq2 : t76_1 = true := hp2
        refine CW.condT rfl hq2 ?_
        refine CW.seq fun K10 hK10 => ?_
        refine CW.region ?_
        refine LW.pure rfl rfl (RV.assign rfl) ?_
        refine LW.nil (hK10 _ _ ?_)
        refine CW.ret ?_
        obtain rfl := Option.some.inj F
        refine ⟨_, (ResOK.one rfl), ?_⟩
        refine ⟨(by first | rfl | simp), R0⟩
      ·
        replace F := ite_n hp2 F
        have hq2 : t76_1 = false := raw_f hp2
        refine CW.condF rfl hq2 ?_
        refine CW.skip (hK9 _ _ ?_)
        refine CW.seq fun K11 hK11 => ?_
        refine CW.seq fun K12 hK12 => ?_
        refine CW.region ?_
        refine LW.pure rfl rfl (RV.move rfl) ?_
        refine LW.pure rfl rfl (RV.nei rfl rfl) ?_
        refine LW.nil (hK12 _ _ ?_)
        by_cases hp3 : r1.2 = 0
        ·
          replace F := ite_y hp3 F
          have hq3 := dec_t hp3
          refine CW.condF rfl (not_f hq3) ?_
          refine CW.skip (hK11 _ _ ?_)
          refine CW.seq fun K13 hK13 => ?_
          obtain ⟨r3, hr3, F⟩ := bnd_some F
          refine CW.region ?_
          refine LW.pure rfl rfl (RV.loadA [.slice A_a0_worth a0.worth.length c_a0_worth] Tk24 rfl (H.blk 2 rfl).cells rfl rfl) ?_
          refine LW.pure rfl rfl (RV.move rfl) ?_
          refine LW.go rfl rfl (OW.call Tc23 rfl (cut_Worth_ok (a0 := a0) (a1 := r1.1) (h_a0_worth.ext R0) (H.own 0 rfl).sl hr3) ?_)
          rintro _ w9 ⟨rfl, E7⟩
          refine ⟨_, rfl, ?_⟩
          replace H := H.grow E7
          replace R0 := H.ext
          refine LW.pure rfl rfl (RV.move rfl) ?_
          refine LW.pure rfl rfl (RV.extract rfl rfl) ?_
          refine LW.pure rfl rfl (RV.extract rfl rfl) ?_
          refine LW.pure rfl rfl (RV.assign rfl) ?_
          refine LW.pure rfl rfl (RV.assign rfl) ?_
          refine LW.nil (hK13 _ _ ?_)
          refine CW.seq fun K14 hK14 => ?_
          obtain ⟨r4, hr4, F⟩ := bnd_some F
          refine CW.region ?_
          refine LW.pure rfl rfl (RV.loadA [.slice A_a0_worth a0.worth.length c_a0_worth] Tk24 rfl (H.blk 2 rfl).cells rfl rfl) ?_
          refine LW.pure rfl rfl (RV.move rfl) ?_
          refine LW.go rfl rfl (OW.call Tc23 rfl (cut_Worth_ok (a0 := a0) (a1 := r2.1) (h_a0_worth.ext R0) (H.own 1 rfl).sl hr4) ?_)
          rintro _ w10 ⟨rfl, E8⟩
          refine ⟨_, rfl, ?_⟩
          replace H := H.grow E8
          replace R0 := H.ext
          refine LW.pure rfl rfl (RV.move rfl) ?_
          refine LW.pure rfl rfl (RV.extract rfl rfl) ?_
          refine LW.pure rfl rfl (RV.extract rfl rfl) ?_
          refine LW.pure rfl rfl (RV.assign rfl) ?_
          refine LW.pure rfl rfl (RV.assign rfl) ?_
          refine LW.nil (hK14 _ _ ?_)
          refine CW.seq fun K15 hK15 => ?_
          obtain ⟨r5, hr5, F⟩ := bnd_some F
          refine CW.region ?_
          refine LW.pure rfl rfl (RV.loadA [.slice A_a0_worth a0.worth.length c_a0_worth] Tk24 rfl (H.blk 2 rfl).cells rfl rfl) ?_
          refine LW.pure rfl rfl (RV.move rfl) ?_
          refine LW.go rfl rfl (OW.call Tc23 rfl (cut_Worth_ok (a0 := a0) (a1 := a1) (h_a0_worth.ext R0) (h_a1.ext R0) hr5) ?_)
          rintro _ w11 ⟨rfl, E9⟩
          refine ⟨_, rfl, ?_⟩
          replace H := H.grow E9
          replace R0 := H.ext
          refine LW.pure rfl rfl (RV.move rfl) ?_
          refine LW.pure rfl rfl (RV.extract rfl rfl) ?_
          refine LW.pure rfl rfl (RV.extract rfl rfl) ?_
          refine LW.pure rfl rfl (RV.assign rfl) ?_
          refine LW.pure rfl rfl (RV.assign rfl) ?_
          refine LW.nil (hK15 _ _ ?_)
          refine CW.seq fun K16 hK16 => ?_
          obtain ⟨r6, hr6, F⟩ := bnd_some F
          refine CW.region ?_
          refine LW.pure rfl rfl (RV.loadA [.slice A_a0_worth a0.worth.length c_a0_worth] Tk24 rfl (H.blk 2 rfl).cells rfl rfl) ?_
          refine LW.pure rfl rfl (RV.move rfl) ?_
          refine LW.go rfl rfl (OW.call Tc23 rfl (cut_Worth_ok (a0 := a0) (a1 := a2) (h_a0_worth.ext R0) (h_a2.ext R0) hr6) ?_)
          rintro _ w12 ⟨rfl, E10⟩
          refine ⟨_, rfl, ?_⟩
          replace H := H.grow E10
          replace R0 := H.ext
          refine LW.pure rfl rfl (RV.move rfl) ?_
          refine LW.pure rfl rfl (RV.extract rfl rfl) ?_
          refine LW.pure rfl rfl (RV.extract rfl rfl) ?_
          refine LW.pure rfl rfl (RV.assign rfl) ?_
          refine LW.pure rfl rfl (RV.assign rfl) ?_
          refine LW.nil (hK16 _ _ ?_)
          refine CW.seq fun K17 hK17 => ?_
          by_cases hp4 : r3.2 = 0
          ·
            replace F := ite_y hp4 F
            have hq4 := dec_t hp4
            by_cases hp5 : r4.2 = 0
            ·
              replace F := ite_y hp5 F
              have hq5 := dec_t hp5
              obtain ⟨hg1, F⟩ := gd_some F
              obtain ⟨hg2, F⟩ := gd_some F
              by_cases hp6 : (r3.1 + r4.1) = (r5.1 + r6.1)
              ·
                replace F := ite_y hp6 F
                have hq6 := dec_t hp6
                obtain ⟨r7, hr7, F⟩ := bnd_some F
                refine CW.region ?_
                refine LW.pure rfl rfl (RV.move rfl) ?_
                refine LW.pure rfl rfl (RV.eqi rfl rfl) ?_
                refine LW.pure rfl rfl (RV.move rfl) ?_
                refine LW.pureYB rfl rfl rfl rfl hq4 (RV.move rfl) ?_
                refine LW.pureYB rfl rfl rfl rfl hq4 (RV.eqi rfl rfl) ?_
                refine LW.pure rfl rfl (RV.pickTB rfl hq4 rfl) ?_
                refine LW.pure rfl rfl (RV.move rfl) ?_
                refine LW.pureYB rfl rfl rfl rfl hq5 (RV.move rfl) ?_
                refine LW.pureYB rfl rfl rfl rfl hq5 (RV.move rfl) ?_
                refine LW.pureYB rfl rfl rfl rfl hq5 (RV.add rfl rfl hg1) ?_
                refine LW.pureYB rfl rfl rfl rfl hq5 (RV.move rfl) ?_
                refine LW.pureYB rfl rfl rfl rfl hq5 (RV.move rfl) ?_
                refine LW.pureYB rfl rfl rfl rfl hq5 (RV.add rfl rfl hg2) ?_
                refine LW.pureYB rfl rfl rfl rfl hq5 (RV.eqi rfl rfl) ?_
                refine LW.pure rfl rfl (RV.pickTB rfl hq5 rfl) ?_
                refine LW.pure rfl rfl (RV.move rfl) ?_
                refine LW.yesB rfl rfl rfl rfl hq6 (OW.call Tc18 rfl (law04_sane_ok hr7) ?_)
                rintro _ w13 ⟨rfl, E11⟩
                refine ⟨_, rfl, ?_⟩
                replace H := H.grow E11
                replace R0 := H.ext
                refine LW.pure rfl rfl (RV.pickTB rfl hq6 rfl) ?_
                refine LW.pure rfl rfl (RV.assign rfl) ?_
                refine LW.nil (hK17 _ _ ?_)
                refine CW.ret ?_
                obtain rfl := Option.some.inj F
                refine ⟨_, (ResOK.one rfl), ?_⟩
                refine ⟨(by first | rfl | simp), R0⟩
              ·
                replace F := ite_n hp6 F
                have hq6 := dec_f hp6
                refine CW.region ?_
                refine LW.pure rfl rfl (RV.move rfl) ?_
                refine LW.pure rfl rfl (RV.eqi rfl rfl) ?_
                refine LW.pure rfl rfl (RV.move rfl) ?_
                refine LW.pureYB rfl rfl rfl rfl hq4 (RV.move rfl) ?_
                refine LW.pureYB rfl rfl rfl rfl hq4 (RV.eqi rfl rfl) ?_
                refine LW.pure rfl rfl (RV.pickTB rfl hq4 rfl) ?_
                refine LW.pure rfl rfl (RV.move rfl) ?_
                refine LW.pureYB rfl rfl rfl rfl hq5 (RV.move rfl) ?_
                refine LW.pureYB rfl rfl rfl rfl hq5 (RV.move rfl) ?_
                refine LW.pureYB rfl rfl rfl rfl hq5 (RV.add rfl rfl hg1) ?_
                refine LW.pureYB rfl rfl rfl rfl hq5 (RV.move rfl) ?_
                refine LW.pureYB rfl rfl rfl rfl hq5 (RV.move rfl) ?_
                refine LW.pureYB rfl rfl rfl rfl hq5 (RV.add rfl rfl hg2) ?_
                refine LW.pureYB rfl rfl rfl rfl hq5 (RV.eqi rfl rfl) ?_
                refine LW.pure rfl rfl (RV.pickTB rfl hq5 rfl) ?_
                refine LW.pure rfl rfl (RV.move rfl) ?_
                refine LW.noB rfl rfl rfl rfl (ne_beq (v := false) hq6 rfl) ?_
                refine LW.pure rfl rfl (RV.pickFB rfl hq6 rfl) ?_
                refine LW.pure rfl rfl (RV.assign rfl) ?_
                refine LW.nil (hK17 _ _ ?_)
                refine CW.ret ?_
                obtain rfl := Option.some.inj F
                refine ⟨_, (ResOK.one rfl), ?_⟩
                refine ⟨(by first | rfl | simp), R0⟩
            ·
              replace F := ite_n hp5 F
              have hq5 := dec_f hp5
              refine CW.region ?_
              refine LW.pure rfl rfl (RV.move rfl) ?_
              refine LW.pure rfl rfl (RV.eqi rfl rfl) ?_
              refine LW.pure rfl rfl (RV.move rfl) ?_
              refine LW.pureYB rfl rfl rfl rfl hq4 (RV.move rfl) ?_
              refine LW.pureYB rfl rfl rfl rfl hq4 (RV.eqi rfl rfl) ?_
              refine LW.pure rfl rfl (RV.pickTB rfl hq4 rfl) ?_
              refine LW.pure rfl rfl (RV.move rfl) ?_
              refine LW.noB rfl rfl rfl rfl (ne_beq (v := false) hq5 rfl) ?_
              refine LW.noB rfl rfl rfl rfl (ne_beq (v := false) hq5 rfl) ?_
              refine LW.noB rfl rfl rfl rfl (ne_beq (v := false) hq5 rfl) ?_
              refine LW.noB rfl rfl rfl rfl (ne_beq (v := false) hq5 rfl) ?_
              refine LW.noB rfl rfl rfl rfl (ne_beq (v := false) hq5 rfl) ?_
              refine LW.noB rfl rfl rfl rfl (ne_beq (v := false) hq5 rfl) ?_
              refine LW.noB rfl rfl rfl rfl (ne_beq (v := false) hq5 rfl) ?_
              refine LW.pure rfl rfl (RV.pickFB rfl hq5 rfl) ?_
              refine LW.pure rfl rfl (RV.move rfl) ?_
              refine LW.noB rfl rfl rfl rfl (ne_beq (v := false) rfl rfl) ?_
              refine LW.pure rfl rfl (RV.pickFB rfl rfl rfl) ?_
              refine LW.pure rfl rfl (RV.assign rfl) ?_
              refine LW.nil (hK17 _ _ ?_)
              refine CW.ret ?_
              obtain rfl := Option.some.inj F
              refine ⟨_, (ResOK.one rfl), ?_⟩
              refine ⟨(by first | rfl | simp), R0⟩
          ·
            replace F := ite_n hp4 F
            have hq4 := dec_f hp4
            refine CW.region ?_
            refine LW.pure rfl rfl (RV.move rfl) ?_
            refine LW.pure rfl rfl (RV.eqi rfl rfl) ?_
            refine LW.pure rfl rfl (RV.move rfl) ?_
            refine LW.noB rfl rfl rfl rfl (ne_beq (v := false) hq4 rfl) ?_
            refine LW.noB rfl rfl rfl rfl (ne_beq (v := false) hq4 rfl) ?_
            refine LW.pure rfl rfl (RV.pickFB rfl hq4 rfl) ?_
            refine LW.pure rfl rfl (RV.move rfl) ?_
            refine LW.noB rfl rfl rfl rfl (ne_beq (v := false) rfl rfl) ?_
            refine LW.noB rfl rfl rfl rfl (ne_beq (v := false) rfl rfl) ?_
            refine LW.noB rfl rfl rfl rfl (ne_beq (v := false) rfl rfl) ?_
            refine LW.noB rfl rfl rfl rfl (ne_beq (v := false) rfl rfl) ?_
            refine LW.noB rfl rfl rfl rfl (ne_beq (v := false) rfl rfl) ?_
            refine LW.noB rfl rfl rfl rfl (ne_beq (v := false) rfl rfl) ?_
            refine LW.noB rfl rfl rfl rfl (ne_beq (v := false) rfl rfl) ?_
            refine LW.pure rfl rfl (RV.pickFB rfl rfl rfl) ?_
            refine LW.pure rfl rfl (RV.move rfl) ?_
            refine LW.noB rfl rfl rfl rfl (ne_beq (v := false) rfl rfl) ?_
            refine LW.pure rfl rfl (RV.pickFB rfl rfl rfl) ?_
            refine LW.pure rfl rfl (RV.assign rfl) ?_
            refine LW.nil (hK17 _ _ ?_)
            refine CW.ret ?_
            obtain rfl := Option.some.inj F
            refine ⟨_, (ResOK.one rfl), ?_⟩
            refine ⟨(by first | rfl | simp), R0⟩
        ·
          replace F := ite_n hp3 F
          have hq3 := dec_f hp3
          refine CW.condT rfl (not_t hq3) ?_
          refine CW.seq fun K18 hK18 => ?_
          obtain ⟨r8, hr8, F⟩ := bnd_some F
          refine CW.region ?_
          refine LW.go rfl rfl (OW.call Tc18 rfl (law04_sane_ok hr8) ?_)
          rintro _ w14 ⟨rfl, E12⟩
          refine ⟨_, rfl, ?_⟩
          replace H := H.grow E12
          replace R0 := H.ext
          refine LW.pure rfl rfl (RV.assign rfl) ?_
          refine LW.nil (hK18 _ _ ?_)
          refine CW.ret ?_
          obtain rfl := Option.some.inj F
          refine ⟨_, (ResOK.one rfl), ?_⟩
          refine ⟨(by first | rfl | simp), R0⟩
    ·
      intro K19 hK19 jK38
      obtain ⟨r13, hr13, F⟩ := bnd_some F
      by_cases hp7 : r13 = true
      ·
        replace F := ite_y hp7 F
        have hq7 : r13 = true := hp7
        by_cases hp8 : r1.2 = r11.2
        ·
          replace F := ite_y hp8 F
          have hq8 := dec_t hp8
          obtain ⟨r14, hr14, F⟩ := bnd_some F
          by_cases hp9 : r14 = true
          ·
            replace F := ite_y hp9 F
            have hq9 : r14 = true := hp9
            refine CW.region ?_
            refine LW.pure rfl rfl (RV.move rfl) ?_
            refine LW.pure rfl rfl (RV.move rfl) ?_
            refine LW.go rfl rfl (OW.call Tc21 rfl (ref04_SameInts_ok (a0 := r1.1) (a1 := r11.1) (H.own 3 rfl).sl (H.own 2 rfl).sl hr13) ?_)
            rintro _ w15 ⟨rfl, E13⟩
            refine ⟨_, rfl, ?_⟩
            have hS23 := hS23.ext E13
            replace H := H.grow E13
            replace R0 := H.ext
            refine LW.pure rfl rfl (RV.not rfl) ?_
            refine LW.pure rfl rfl (RV.move rfl) ?_
            refine LW.pureYB rfl rfl rfl rfl (not_f hq7) (RV.move rfl) ?_
            refine LW.pureYB rfl rfl rfl rfl (not_f hq7) (RV.move rfl) ?_
            refine LW.pureYB rfl rfl rfl rfl (not_f hq7) (RV.nei rfl rfl) ?_
            refine LW.pure rfl rfl (RV.pickFB rfl (not_f hq7) rfl) ?_
            refine LW.pure rfl rfl (RV.move rfl) ?_
            refine LW.pureYB rfl rfl rfl rfl (not_f hq8) (RV.move rfl) ?_
            refine LW.pureYB rfl rfl rfl rfl (not_f hq8) (RV.move rfl) ?_
            refine LW.yesB rfl rfl rfl rfl (not_f hq8) (OW.call Tc21 rfl (ref04_SameInts_ok (a0 := r2.1) (a1 := r12.1) (H.own 1 rfl).sl (H.own 0 rfl).sl hr14) ?_)
            rintro _ w16 ⟨rfl, E14⟩
            refine ⟨_, rfl, ?_⟩
            have hS23 := hS23.ext E14
            replace H := H.grow E14
            replace R0 := H.ext
            refine LW.pureYB rfl rfl rfl rfl (not_f hq8) (RV.not rfl) ?_
            refine LW.pure rfl rfl (RV.pickFB rfl (not_f hq8) rfl) ?_
            refine LW.pure rfl rfl (RV.move rfl) ?_
            refine LW.pureYB rfl rfl rfl rfl (not_f hq9) (RV.move rfl) ?_
            refine LW.pureYB rfl rfl rfl rfl (not_f hq9) (RV.move rfl) ?_
            refine LW.pureYB rfl rfl rfl rfl (not_f hq9) (RV.nei rfl rfl) ?_
            refine LW.pure rfl rfl (RV.pickFB rfl (not_f hq9) rfl) ?_
            replace H := H.pick (L' := [.own A22_0 c22_0 3 1 (List.map encN r1.1), .own A26_0 c26_0 3 1 (List.map encN r2.1), .blk b1 24 [.slice A_a0_worth a0.worth.length c_a0_worth]]) [3, 1, 5] (by decide) rfl
            replace R0 := H.ext
            refine LW.nil (jK38 _ _ ⟨_, ?_, ⟨(!(decide (r2.2 = r12.2))), F, rfl, H⟩⟩)
            exact ⟨rfl, rfl, rfl, rfl, (look_slice rfl (by first | rfl | (simp; done) | (simp; omega))), rfl, (look_slice rfl (by first | rfl | (simp; done) | (simp; omega))), rfl, trivial⟩
          ·
            replace F := ite_n hp9 F
            have hq9 : r14 = false := raw_f hp9
            refine CW.region ?_
            refine LW.pure rfl rfl (RV.move rfl) ?_
            refine LW.pure rfl rfl (RV.move rfl) ?_
            refine LW.go rfl rfl (OW.call Tc21 rfl (ref04_SameInts_ok (a0 := r1.1) (a1 := r11.1) (H.own 3 rfl).sl (H.own 2 rfl).sl hr13) ?_)
            rintro _ w17 ⟨rfl, E15⟩
            refine ⟨_, rfl, ?_⟩
            have hS23 := hS23.ext E15
            replace H := H.grow E15
            replace R0 := H.ext
            refine LW.pure rfl rfl (RV.not rfl) ?_
            refine LW.pure rfl rfl (RV.move rfl) ?_
            refine LW.pureYB rfl rfl rfl rfl (not_f hq7) (RV.move rfl) ?_
            refine LW.pureYB rfl rfl rfl rfl (not_f hq7) (RV.move rfl) ?_
            refine LW.pureYB rfl rfl rfl rfl (not_f hq7) (RV.nei rfl rfl) ?_
            refine LW.pure rfl rfl (RV.pickFB rfl (not_f hq7) rfl) ?_
            refine LW.pure rfl rfl (RV.move rfl) ?_
            refine LW.pureYB rfl rfl rfl rfl (not_f hq8) (RV.move rfl) ?_
            refine LW.pureYB rfl rfl rfl rfl (not_f hq8) (RV.move rfl) ?_
            refine LW.yesB rfl rfl rfl rfl (not_f hq8) (OW.call Tc21 rfl (ref04_SameInts_ok (a0 := r2.1) (a1 := r12.1) (H.own 1 rfl).sl (H.own 0 rfl).sl hr14) ?_)
            rintro _ w18 ⟨rfl, E16⟩
            refine ⟨_, rfl, ?_⟩
            have hS23 := hS23.ext E16
            replace H := H.grow E16
            replace R0 := H.ext
            refine LW.pureYB rfl rfl rfl rfl (not_f hq8) (RV.not rfl) ?_
            refine LW.pure rfl rfl (RV.pickFB rfl (not_f hq8) rfl) ?_
            refine LW.pure rfl rfl (RV.move rfl) ?_
            refine LW.noB rfl rfl rfl rfl (ne_beq (v := true) (not_t hq9) rfl) ?_
            refine LW.noB rfl rfl rfl rfl (ne_beq (v := true) (not_t hq9) rfl) ?_
            refine LW.noB rfl rfl rfl rfl (ne_beq (v := true) (not_t hq9) rfl) ?_
            refine LW.pure rfl rfl (RV.pickTB rfl (not_t hq9) rfl) ?_
            replace H := H.pick (L' := [.own A22_0 c22_0 3 1 (List.map encN r1.1), .own A26_0 c26_0 3 1 (List.map encN r2.1), .blk b1 24 [.slice A_a0_worth a0.worth.length c_a0_worth]]) [3, 1, 5] (by decide) rfl
            replace R0 := H.ext
            refine LW.nil (jK38 _ _ ⟨_, ?_, ⟨true, F, rfl, H⟩⟩)
            exact ⟨rfl, rfl, rfl, rfl, (look_slice rfl (by first | rfl | (simp; done) | (simp; omega))), rfl, (look_slice rfl (by first | rfl | (simp; done) | (simp; omega))), rfl, trivial⟩
        ·
          replace F := ite_n hp8 F
          have hq8 := dec_f hp8
          refine CW.region ?_
          refine LW.pure rfl rfl (RV.move rfl) ?_
          refine LW.pure rfl rfl (RV.move rfl) ?_
          refine LW.go rfl rfl (OW.call Tc21 rfl (ref04_SameInts_ok (a0 := r1.1) (a1 := r11.1) (H.own 3 rfl).sl (H.own 2 rfl).sl hr13) ?_)
          rintro _ w19 ⟨rfl, E17⟩
          refine ⟨_, rfl, ?_⟩
          have hS23 := hS23.ext E17
          replace H := H.grow E17
          replace R0 := H.ext
          refine LW.pure rfl rfl (RV.not rfl) ?_
          refine LW.pure rfl rfl (RV.move rfl) ?_
          refine LW.pureYB rfl rfl rfl rfl (not_f hq7) (RV.move rfl) ?_
          refine LW.pureYB rfl rfl rfl rfl (not_f hq7) (RV.move rfl) ?_
          refine LW.pureYB rfl rfl rfl rfl (not_f hq7) (RV.nei rfl rfl) ?_
          refine LW.pure rfl rfl (RV.pickFB rfl (not_f hq7) rfl) ?_
          refine LW.pure rfl rfl (RV.move rfl) ?_
          refine LW.noB rfl rfl rfl rfl (ne_beq (v := true) (not_t hq8) rfl) ?_
          refine LW.noB rfl rfl rfl rfl (ne_beq (v := true) (not_t hq8) rfl) ?_
          refine LW.noB rfl rfl rfl rfl (ne_beq (v := true) (not_t hq8) rfl) ?_
          refine LW.noB rfl rfl rfl rfl (ne_beq (v := true) (not_t hq8) rfl) ?_
          refine LW.pure rfl rfl (RV.pickTB rfl (not_t hq8) rfl) ?_
          refine LW.pure rfl rfl (RV.move rfl) ?_
          refine LW.noB rfl rfl rfl rfl (ne_beq (v := true) rfl rfl) ?_
          refine LW.noB rfl rfl rfl rfl (ne_beq (v := true) rfl rfl) ?_
          refine LW.noB rfl rfl rfl rfl (ne_beq (v := true) rfl rfl) ?_
          refine LW.pure rfl rfl (RV.pickTB rfl rfl rfl) ?_
          replace H := H.pick (L' := [.own A22_0 c22_0 3 1 (List.map encN r1.1), .own A26_0 c26_0 3 1 (List.map encN r2.1), .blk b1 24 [.slice A_a0_worth a0.worth.length c_a0_worth]]) [3, 1, 5] (by decide) rfl
          replace R0 := H.ext
          refine LW.nil (jK38 _ _ ⟨_, ?_, ⟨true, F, rfl, H⟩⟩)
          exact ⟨rfl, rfl, rfl, rfl, (look_slice rfl (by first | rfl | (simp; done) | (simp; omega))), rfl, (look_slice rfl (by first | rfl | (simp; done) | (simp; omega))), rfl, trivial⟩
      ·
        replace F := ite_n hp7 F
        have hq7 : r13 = false := raw_f hp7
        refine CW.region ?_
        refine LW.pure rfl rfl (RV.move rfl) ?_
        refine LW.pure rfl rfl (RV.move rfl) ?_
        refine LW.go rfl rfl (OW.call Tc21 rfl (ref04_SameInts_ok (a0 := r1.1) (a1 := r11.1) (H.own 3 rfl).sl (H.own 2 rfl).sl hr13) ?_)
        rintro _ w20 ⟨rfl, E18⟩
        refine ⟨_, rfl, ?_⟩
        have hS23 := hS23.ext E18
        replace H := H.grow E18
        replace R0 := H.ext
        refine LW.pure rfl rfl (RV.not rfl) ?_
        refine LW.pure rfl rfl (RV.move rfl) ?_
        refine LW.noB rfl rfl rfl rfl (ne_beq (v := true) (not_t hq7) rfl) ?_
        refine LW.noB rfl rfl rfl rfl (ne_beq (v := true) (not_t hq7) rfl) ?_
        refine LW.noB rfl rfl rfl rfl (ne_beq (v := true) (not_t hq7) rfl) ?_
        refine LW.pure rfl rfl (RV.pickTB rfl (not_t hq7) rfl) ?_
        refine LW.pure rfl rfl (RV.move rfl) ?_
        refine LW.noB rfl rfl rfl rfl (ne_beq (v := true) rfl rfl) ?_
        refine LW.noB rfl rfl rfl rfl (ne_beq (v := true) rfl rfl) ?_
        refine LW.noB rfl rfl rfl rfl (ne_beq (v := true) rfl rfl) ?_
        refine LW.noB rfl rfl rfl rfl (ne_beq (v := true) rfl rfl) ?_
        refine LW.pure rfl rfl (RV.pickTB rfl rfl rfl) ?_
        refine LW.pure rfl rfl (RV.move rfl) ?_
        refine LW.noB rfl rfl rfl rfl (ne_beq (v := true) rfl rfl) ?_
        refine LW.noB rfl rfl rfl rfl (ne_beq (v := true) rfl rfl) ?_
        refine LW.noB rfl rfl rfl rfl (ne_beq (v := true) rfl rfl) ?_
        refine LW.pure rfl rfl (RV.pickTB rfl rfl rfl) ?_
        replace H := H.pick (L' := [.own A22_0 c22_0 3 1 (List.map encN r1.1), .own A26_0 c26_0 3 1 (List.map encN r2.1), .blk b1 24 [.slice A_a0_worth a0.worth.length c_a0_worth]]) [3, 1, 5] (by decide) rfl
        replace R0 := H.ext
        refine LW.nil (jK38 _ _ ⟨_, ?_, ⟨true, F, rfl, H⟩⟩)
        exact ⟨rfl, rfl, rfl, rfl, (look_slice rfl (by first | rfl | (simp; done) | (simp; omega))), rfl, (look_slice rfl (by first | rfl | (simp; done) | (simp; omega))), rfl, trivial⟩

end Go.D4

set_option linter.unusedVariables false
namespace Go.D4
open Go.Tb




def cut_Toll_k1 (m1 : List (List Int)) : Option (Bog × Int) :=
  bnd (cut_Validate ((⟨m1⟩ : Bog))) fun r1 =>
  if r1 = 0 then
    some ((⟨m1⟩ : Bog), (0 : Int))
  else
    some ((⟨[]⟩ : Bog), (3 : Int))
def cut_Toll_k2 (t26_1 : Int) (rec1 : Int → (List (List Int)) → Option (Bog × Int)) (m2 : List (List Int)) : Option (Bog × Int) :=
  gd (InR (t26_1 + 1)) <|
  rec1 ((t26_1 + 1)) m2
def cut_Toll_k3 (t26_1 : Int) (m3 : List (List Int)) (rec1 : Int → (List (List Int)) → Option (Bog × Int)) (l1 : List Int) : Option (Bog × Int) :=
  gd (m3.length + 1 ≤ 1000000) <|
  cut_Toll_k2 t26_1 rec1 (((m3 ++ [l1])))
def cut_Toll_B1 (a1 : Int) (t26_1 : Int) (m3 : List (List Int)) (rec1 : Int → (List (List Int)) → Option (Bog × Int)) (x1 : List Int) (rec2 : Int → (List Int) → Option (Bog × Int)) (t32_1 : Int) (l2 : List Int) : Option (Bog × Int) :=
  if t32_1 < ((x1.length : Int)) then
    ix x1 t32_1 fun x2 =>
    gd (InR (x2 - a1)) <|
    gd (l2.length + (([x2 - a1] : List Int)).length ≤ 1000000) <|
    gd (InR (t32_1 + 1)) <|
    rec2 ((t32_1 + 1)) (((l2 ++ ([x2 - a1] : List Int))))
  else
    cut_Toll_k3 t26_1 m3 rec1 l2
def cut_Toll_L1 (a1 : Int) (t26_1 : Int) (m3 : List (List Int)) (rec1 : Int → (List (List Int)) → Option (Bog × Int)) (x1 : List Int) : Nat → Int → (List Int) → Option (Bog × Int)
  | 0, _, _ => none
  | n_ + 1, t32_1, l2 => cut_Toll_B1 a1 t26_1 m3 rec1 x1 (cut_Toll_L1 a1 t26_1 m3 rec1 x1 n_) t32_1 l2
theorem cut_Toll_L1_s {a1 : Int} {t26_1 : Int} {m3 : List (List Int)} {rec1 : Int → (List (List Int)) → Option (Bog × Int)} {x1 : List Int} {m_ : Nat} {t32_1 : Int} {l2 : List Int} {res : Bog × Int} (h : cut_Toll_L1 a1 t26_1 m3 rec1 x1 m_ t32_1 l2 = some res) : ∃ k, m_ = k + 1 ∧ cut_Toll_B1 a1 t26_1 m3 rec1 x1 (cut_Toll_L1 a1 t26_1 m3 rec1 x1 k) t32_1 l2 = some res := by
  cases m_ with
  | zero => cases h
  | succ k => exact ⟨k, rfl, h⟩
def cut_Toll_B2 (a0 : Bog) (a1 : Int) (rec1 : Int → (List (List Int)) → Option (Bog × Int)) (t26_1 : Int) (m3 : List (List Int)) : Option (Bog × Int) :=
  if t26_1 < ((a0.worth.length : Int)) then
    ix a0.worth t26_1 fun x1 =>
    cut_Toll_L1 a1 t26_1 m3 rec1 x1 FU (((0 : Int))) ((([] : List Int)))
  else
    cut_Toll_k1 m3
def cut_Toll_L2 (a0 : Bog) (a1 : Int) : Nat → Int → (List (List Int)) → Option (Bog × Int)
  | 0, _, _ => none
  | n_ + 1, t26_1, m3 => cut_Toll_B2 a0 a1 (cut_Toll_L2 a0 a1 n_) t26_1 m3
theorem cut_Toll_L2_s {a0 : Bog} {a1 : Int} {m_ : Nat} {t26_1 : Int} {m3 : List (List Int)} {res : Bog × Int} (h : cut_Toll_L2 a0 a1 m_ t26_1 m3 = some res) : ∃ k, m_ = k + 1 ∧ cut_Toll_B2 a0 a1 (cut_Toll_L2 a0 a1 k) t26_1 m3 = some res := by
  cases m_ with
  | zero => cases h
  | succ k => exact ⟨k, rfl, h⟩
def cut_Toll (a0 : Bog) (a1 : Int) : Option (Bog × Int) :=
  bnd (cut_Validate a0) fun r2 =>
  if r2 = 0 then
    bnd (cut_from a1 ((-50 : Int)) ((50 : Int))) fun r3 =>
    if r3 = true then
      cut_Toll_L2 a0 a1 FU (((0 : Int))) ((([] : List (List Int))))
    else
      some ((⟨[]⟩ : Bog), (1 : Int))
  else
    some ((⟨[]⟩ : Bog), r2)
def ref04_Copy_k1 (m1 : List (List Int)) : Option Bog :=
  some ((⟨m1⟩ : Bog))
def ref04_Copy_B1 (a0 : Bog) (rec1 : Int → (List (List Int)) → Option Bog) (t4_1 : Int) (m2 : List (List Int)) : Option Bog :=
  if t4_1 < ((a0.worth.length : Int)) then
    ix a0.worth t4_1 fun x1 =>
    gd ((([] : List Int)).length + x1.length ≤ 1000000) <|
    gd (m2.length + 1 ≤ 1000000) <|
    gd (InR (t4_1 + 1)) <|
    rec1 ((t4_1 + 1)) (((m2 ++ [(([] : List Int) ++ x1)])))
  else
    ref04_Copy_k1 m2
def ref04_Copy_L1 (a0 : Bog) : Nat → Int → (List (List Int)) → Option Bog
  | 0, _, _ => none
  | n_ + 1, t4_1, m2 => ref04_Copy_B1 a0 (ref04_Copy_L1 a0 n_) t4_1 m2
theorem ref04_Copy_L1_s {a0 : Bog} {m_ : Nat} {t4_1 : Int} {m2 : List (List Int)} {res : Bog} (h : ref04_Copy_L1 a0 m_ t4_1 m2 = some res) : ∃ k, m_ = k + 1 ∧ ref04_Copy_B1 a0 (ref04_Copy_L1 a0 k) t4_1 m2 = some res := by
  cases m_ with
  | zero => cases h
  | succ k => exact ⟨k, rfl, h⟩
def ref04_Copy (a0 : Bog) : Option Bog :=
  ref04_Copy_L1 a0 FU (((0 : Int))) ((([] : List (List Int))))
end Go.D4

