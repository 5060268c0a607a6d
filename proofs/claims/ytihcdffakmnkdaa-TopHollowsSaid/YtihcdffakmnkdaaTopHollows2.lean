/- Lemmas and walks that the proof of this claim uses: D4m2, D4m3, D4m5, D4m6, D4m7, D4m8, D4m9, D4m10, D4m11, D4m15. -/
import Derived.Test.YtihcdffakmnkdaaTopHollows1
set_option linter.unusedVariables false
set_option linter.unusedSimpArgs false
namespace Go.D4
open Go.Tb Go.Proofs Go.RowKit
theorem Tc25 : callable Try.prog 25 = true := by kernel_rfl
theorem Tc65 : callable Try.prog 65 = true := by kernel_rfl
theorem Tc73 : callable Try.prog 73 = true := by kernel_rfl
theorem Tc74 : callable Try.prog 74 = true := by kernel_rfl
theorem Tc84 : callable Try.prog 84 = true := by kernel_rfl
theorem Tc87 : callable Try.prog 87 = true := by kernel_rfl
theorem Tc88 : callable Try.prog 88 = true := by kernel_rfl
theorem Tc91 : callable Try.prog 91 = true := by kernel_rfl
set_option maxRecDepth 20000 in
set_option maxHeartbeats 1000000 in
theorem slices_Clone_int_ok {a0 : List Int} {A_a0 : Option Addr} {c_a0 : Nat} {w : World} {res : List Int} (h_a0 : Sl w A_a0 c_a0 1 (a0.map encN)) (F : slices_Clone_int a0 = some res) : Calls Try.prog 87 #[.slice A_a0 a0.length c_a0] w (fun e w' => ∃ (A0 : Option Addr) (c0 : Nat), e = .returned (.slice A0 res.length c0) ∧ Hp w w' [.own A0 c0 3 1 (List.map encN res)]) := by
  cases A_a0 with
  | none =>
    obtain rfl := Sl.none_nil h_a0
    refine calls_of_cw (args := [.slice none (([] : List Int).length) c_a0]) Try.func87 rfl rfl rfl rfl ?_
    have H := Hp.start w
    have R0 := H.ext
    unfold slices_Clone_int at F
    obtain ⟨_, F⟩ := gd_some F
    refine CW.seq fun K1 hK1 => ?_
    refine CW.region ?_
    refine LW.pure rfl rfl (RV.assign rfl) ?_
    refine LW.nil (hK1 _ _ ?_)
    refine CW.seq fun K2 hK2 => ?_
    refine CW.seq fun K3 hK3 => ?_
    refine CW.region ?_
    refine LW.pure rfl rfl (RV.move rfl) ?_
    refine LW.pure rfl rfl (RV.eqnil Ts25 rfl rfl) ?_
    refine LW.nil (hK3 _ _ ?_)
    refine CW.condT rfl rfl ?_
    refine CW.seq fun K4 hK4 => ?_
    refine CW.region ?_
    refine LW.pure rfl rfl (RV.assign rfl) ?_
    refine LW.nil (hK4 _ _ ?_)
    refine CW.ret ?_
    obtain rfl := Option.some.inj F
    refine ⟨_, (ResOK.one rfl), ?_⟩
    replace H := H.nilOwn 3 1
    replace R0 := H.ext
    exact ⟨none, 0, (by first | rfl | (simp; done) | (simp; omega)), H⟩
  | some ad =>
    refine calls_of_cw (args := [.slice ((some ad)) a0.length c_a0]) Try.func87 rfl rfl rfl rfl ?_
    have H := Hp.start w
    have R0 := H.ext
    unfold slices_Clone_int at F
    refine CW.seq fun K1 hK1 => ?_
    refine CW.region ?_
    refine LW.pure rfl rfl (RV.assign rfl) ?_
    refine LW.nil (hK1 _ _ ?_)
    refine CW.seq fun K2 hK2 => ?_
    refine CW.seq fun K3 hK3 => ?_
    refine CW.region ?_
    refine LW.pure rfl rfl (RV.move rfl) ?_
    refine LW.pure rfl rfl (RV.eqnil Ts25 rfl rfl) ?_
    refine LW.nil (hK3 _ _ ?_)
    refine CW.condF rfl rfl ?_
    refine CW.skip (hK2 _ _ ?_)
    refine CW.seq fun K4 hK4 => ?_
    obtain ⟨hg1, F⟩ := gd_some F
    refine CW.region ?_
    refine LW.go rfl rfl (OW.buildSlice (e := 3) (vs := []) (cs := []) rfl (fun _ => by kernel_rfl) fun b2 w3 N2 => ?_)
    replace H := H.made' (k := 1) (t := 3) (enc := encN) (l := ([] : List Int)) N2 N2.blk (fun _ => rfl) rfl (by first | decide | omega | (simp; done) | (simp; omega))
    replace R0 := H.ext
    refine LW.pure rfl rfl (RV.move rfl) ?_
    refine LW.go rfl rfl (OW.appendG (enc := encN) (l := ([] : List Int)) (xs := a0) Ts25 (look_slice rfl (by first | rfl | (simp; done) | (simp; omega))) rfl (H.own 0 rfl) (h_a0.ext R0) (fun _ => rfl) rfl rfl hg1 (by decide) fun A2 c2 w4 O2 M2 D2 => ?_)
    replace H : Hp w w4 [.own A2 c2 3 1 (List.map encN ((([] : List Int) ++ a0)))] := H.mod 0 rfl M2 O2 D2
    replace R0 := H.ext
    refine LW.pure rfl rfl (RV.assign rfl) ?_
    refine LW.nil (hK4 _ _ ?_)
    refine CW.ret ?_
    obtain rfl := Option.some.inj F
    refine ⟨_, (ResOK.one rfl), ?_⟩
    exact ⟨A2, c2, (by first | rfl | (simp; done) | (simp; omega)), H⟩
set_option maxRecDepth 20000 in
set_option maxHeartbeats 1000000 in
theorem cut_hollow_list_ok {a0 : Arr6} {a1 : Bog} {A_a1_worth : Option Addr} {c_a1_worth : Nat} {w : World} {res : (List Int)} (h_a1_worth : Sl2 w A_a1_worth c_a1_worth 1 encN a1.worth) (F : cut_hollow_list a0 a1 = some res) : Calls Try.prog 91 #[.agg #[.int .i64 a0.at0, .int .i64 a0.at1, .int .i64 a0.at2, .int .i64 a0.at3, .int .i64 a0.at4, .int .i64 a0.at5], .agg #[.slice A_a1_worth a1.worth.length c_a1_worth]] w (fun e w' => ∃ (A0 : Option Addr) (c0 : Nat), e = .returned (.slice A0 res.length c0) ∧ Hp w w' [.own A0 c0 3 1 (List.map encN res)]) := by
  refine calls_of_cw (args := [.agg #[.int .i64 a0.at0, .int .i64 a0.at1, .int .i64 a0.at2, .int .i64 a0.at3, .int .i64 a0.at4, .int .i64 a0.at5], .agg #[.slice A_a1_worth a1.worth.length c_a1_worth]]) Try.func91 rfl rfl rfl rfl ?_
  have H := Hp.start w
  have R0 := H.ext
  unfold cut_hollow_list at F
  refine CW.seq fun K1 hK1 => ?_
  refine CW.region ?_
  refine LW.go rfl rfl (OW.box rfl fun b1 w1 N1 => ?_)
  replace H := H.made' (k := 1) (t := 87) (enc := encN) (l := ([a0.at0, a0.at1, a0.at2, a0.at3, a0.at4, a0.at5] : List Int)) N1 N1.blk (fun _ => rfl) rfl (by first | decide | (simp; done) | (simp; omega))
  replace R0 := H.ext
  refine LW.go rfl rfl (OW.box rfl fun b2 w2 N2 => ?_)
  replace H := H.new N2 N2.blk
  replace R0 := H.ext
  refine LW.pure rfl rfl (RV.assign rfl) ?_
  refine LW.nil (hK1 _ _ ?_)
  refine CW.seq fun K2 hK2 => ?_
  obtain ⟨hg1, F⟩ := gd_some F
  obtain ⟨r1, hr1, F⟩ := bnd_some F
  refine CW.region ?_
  refine LW.pure rfl rfl (RV.fieldAddr Tf24_0 rfl) ?_
  refine LW.pure rfl rfl (RV.load1 Tk22 rfl ((H.blk 0 rfl).cells.off 0) rfl) ?_
  refine LW.pure rfl rfl (RV.len Ts22 rfl) ?_
  refine LW.pure rfl rfl (RV.arrH (l := ([a0.at0, a0.at1, a0.at2, a0.at3, a0.at4, a0.at5] : List Int)) Ta87 rfl rfl (by first | exact hg1 | (have q := hg1; simp at q ⊢; omega) | (simp; omega)) (by first | rfl | omega | (simp; done) | (simp; omega))) ?_
  refine LW.go rfl rfl (OW.call Tc87 rfl (slices_Clone_int_ok (a0 := (List.take (Int.toNat ((a1.worth.length : Int))) (([a0.at0, a0.at1, a0.at2, a0.at3, a0.at4, a0.at5] : List Int)))) ((H.own 1 rfl).sl.cutH (by first | exact hg1 | (have q := hg1; simp at q ⊢; omega) | (simp; omega))) hr1) ?_)
  rintro _ w3 ⟨A3_0, c3_0, rfl, E1⟩
  refine ⟨_, rfl, ?_⟩
  replace H : Hp w w3 [.own A3_0 c3_0 3 1 (List.map encN r1), .blk b2 24 [.slice A_a1_worth a1.worth.length c_a1_worth], .own (some ⟨b1, 0, none⟩) 6 87 1 (List.map encN (([a0.at0, a0.at1, a0.at2, a0.at3, a0.at4, a0.at5] : List Int)))] := H.append E1
  replace R0 := H.ext
  refine LW.pure rfl rfl (RV.assign rfl) ?_
  refine LW.nil (hK2 _ _ ?_)
  refine CW.ret ?_
  obtain rfl := Option.some.inj F
  refine ⟨_, (ResOK.one rfl), ?_⟩
  replace H := H.pick (L' := [.own A3_0 c3_0 3 1 (List.map encN r1)]) [0] (by decide) rfl
  replace R0 := H.ext
  exact ⟨A3_0, c3_0, (by first | rfl | (simp; done) | (simp; omega)), H⟩
set_option maxRecDepth 20000 in
set_option maxHeartbeats 1000000 in
theorem cut_worth_ok {a0 : Bog} {a1 : List Int} {A_a0_worth : Option Addr} {c_a0_worth : Nat} {A_a1 : Option Addr} {c_a1 : Nat} {w : World} {res : Int} (h_a0_worth : Sl2 w A_a0_worth c_a0_worth 1 encN a0.worth) (h_a1 : Sl w A_a1 c_a1 1 (a1.map encN)) (F : cut_worth a0 a1 = some res) : Calls Try.prog 65 #[.agg #[.slice A_a0_worth a0.worth.length c_a0_worth], .slice A_a1 a1.length c_a1] w (Rt w (.int .i64 res)) := by
  refine calls_of_cw (args := [.agg #[.slice A_a0_worth a0.worth.length c_a0_worth], .slice A_a1 a1.length c_a1]) Try.func65 rfl rfl rfl rfl ?_
  have H := Hp.start w
  have R0 := H.ext
  unfold cut_worth at F
  refine CW.seq fun K1 hK1 => ?_
  refine CW.region ?_
  refine LW.go rfl rfl (OW.box rfl fun b1 w1 N1 => ?_)
  replace H := H.new N1 N1.blk
  replace R0 := H.ext
  refine LW.pure rfl rfl (RV.assign rfl) ?_
  refine LW.nil (hK1 _ _ ?_)
  refine CW.seq fun K2 hK2 => ?_
  refine CW.region ?_
  refine LW.pure rfl rfl (RV.assign rfl) ?_
  refine LW.nil (hK2 _ _ ?_)
  refine CW.seqJ (fun ρ wl1 => (∃ (t5_1 : Int), cut_worth_k1 t5_1 = some res ∧ ρ = [(4, .int .i64 0), (5, .int .i64 t5_1)] ∧ Hp w wl1 [])) ?_ ?_
  ·
    rintro _ wl1 ⟨t5_1, F, rfl, H⟩
    have R0 := H.ext
    unfold cut_worth_k1 at F
    refine CW.seq fun K3 hK3 => ?_
    refine CW.region ?_
    refine LW.pure rfl rfl (RV.move rfl) ?_
    refine LW.pure rfl rfl (RV.assign rfl) ?_
    refine LW.nil (hK3 _ _ ?_)
    refine CW.ret ?_
    obtain rfl := Option.some.inj F
    refine ⟨_, (ResOK.one rfl), ?_⟩
    refine ⟨(by first | rfl | simp), R0⟩
  ·
    intro K4 hK4 jK290
    refine CW.seq fun K5 hK5 => ?_
    refine CW.region ?_
    refine LW.pure rfl rfl (RV.move rfl) ?_
    refine LW.pure rfl rfl (RV.len Ts25 rfl) ?_
    refine LW.pure rfl rfl (RV.move rfl) ?_
    refine LW.nil (hK5 _ _ ?_)
    refine CW.block ?_
    refine CW.loop (fun meas ρ wl2 => ∃ (t5_4 : Int) (t12_1 : Int), cut_worth_L2 a0 a1 meas t5_4 t12_1 = some res ∧ ρ = [(2, .pointer (some (⟨b1, 0, none⟩))), (4, .int .i64 0), (5, .int .i64 t5_4), (10, .slice A_a1 a1.length c_a1), (11, .int .i64 ((a1.length : Int))), (12, .int .i64 t12_1)] ∧ Hp w wl2 [.blk b1 24 [.slice A_a0_worth a0.worth.length c_a0_worth]]) FU ⟨_, ?_, ((0 : Int)), ((0 : Int)), F, rfl, H⟩ ?_
    · exact ⟨rfl, rfl, rfl, rfl, rfl, rfl, trivial⟩
    rintro mk1 _ wl2 ⟨t5_4, t12_1, F, rfl, H⟩
    have R0 := H.ext
    replace F := cut_worth_L2_s F
    obtain ⟨mk1, rfl, F⟩ := F
    generalize hrec1 : cut_worth_L2 a0 a1 mk1 = rec1 at F
    unfold cut_worth_B2 at F
    refine CW.seq fun K6 hK6 => ?_
    refine CW.region ?_
    refine LW.pure rfl rfl (RV.lss rfl rfl) ?_
    refine LW.nil (hK6 _ _ ?_)
    refine CW.seq fun K7 hK7 => ?_
    by_cases hp1 : t12_1 < ((a1.length : Int))
    ·
      replace F := ite_y hp1 F
      have hq1 := dec_t hp1
      refine CW.condT rfl hq1 ?_
      refine CW.skip (hK7 _ _ ?_)
      refine CW.seqJ (fun ρ wl3 => (∃ (t5_2 : Int), cut_worth_k2 t12_1 rec1 t5_2 = some res ∧ ρ = [(2, .pointer (some (⟨b1, 0, none⟩))), (4, .int .i64 0), (5, .int .i64 t5_2), (10, .slice A_a1 a1.length c_a1), (11, .int .i64 ((a1.length : Int))), (12, .int .i64 t12_1)] ∧ Hp w wl3 [.blk b1 24 [.slice A_a0_worth a0.worth.length c_a0_worth]])) ?_ ?_
      ·
        rintro _ wl3 ⟨t5_2, F, rfl, H⟩
        have R0 := H.ext
        unfold cut_worth_k2 at F
        obtain ⟨hg1, F⟩ := gd_some F
        refine CW.region ?_
        refine LW.pure rfl rfl (RV.add rfl rfl hg1) ?_
        refine LW.pure rfl rfl (RV.move rfl) ?_
        refine LW.nil ?_
        subst hrec1
        refine ⟨mk1, Nat.lt_succ_self _, _, ?_, t5_2, (t12_1 + 1), F, rfl, H⟩
        exact ⟨rfl, rfl, rfl, rfl, rfl, rfl, trivial⟩
      ·
        intro K8 hK8 jK370
        refine CW.block ?_
        refine CW.seq fun K9 hK9 => ?_
        obtain ⟨x1, hbx1, hx1, F⟩ := ix_some F
        refine CW.region ?_
        refine LW.pure rfl rfl (RV.move rfl) ?_
        refine LW.pure rfl rfl (RV.indexAddr Ts25 rfl rfl hbx1 (h_a1.addr_ hx1)) ?_
        refine LW.pure rfl rfl (RV.load1 Tk3 rfl ((h_a1.at_ hx1).ext R0) rfl) ?_
        refine LW.pure rfl rfl (RV.assign rfl) ?_
        refine LW.pure rfl rfl (RV.assign rfl) ?_
        refine LW.nil (hK9 _ _ ?_)
        refine CW.seq fun K10 hK10 => ?_
        obtain ⟨x2, hbx2, hx2, F⟩ := ix_some F
        obtain ⟨hg2, F⟩ := gd_some F
        refine CW.region ?_
        refine LW.pure rfl rfl (RV.fieldAddr Tf24_0 rfl) ?_
        refine LW.pure rfl rfl (RV.load1 Tk22 rfl ((H.blk 0 rfl).cells.off 0) rfl) ?_
        refine LW.pure rfl rfl (RV.move rfl) ?_
        obtain ⟨A1, c1, hC1, hS1⟩ := h_a0_worth.at_ hx2
        refine LW.pure rfl rfl (RV.indexAddr Ts22 rfl rfl hbx2 (h_a0_worth.addr hbx2)) ?_
        refine LW.pure rfl rfl (RV.load1 Tk25 rfl (hC1.ext R0) rfl) ?_
        refine LW.pure rfl rfl (RV.move rfl) ?_
        refine LW.pure rfl rfl (RV.cutH (l := x2) Ts25 rfl rfl hg2 (hS1.ext R0).le rfl) ?_
        refine LW.pure rfl rfl (RV.len Ts25 rfl) ?_
        refine LW.pure rfl rfl (RV.move rfl) ?_
        refine LW.nil (hK10 _ _ ?_)
        refine CW.block ?_
        refine CW.loop (fun meas ρ wl4 => ∃ (t5_3 : Int) (t25_1 : Int), cut_worth_L1 t12_1 rec1 x1 x2 meas t5_3 t25_1 = some res ∧ ρ = [(2, .pointer (some (⟨b1, 0, none⟩))), (4, .int .i64 0), (5, .int .i64 t5_3), (10, .slice A_a1 a1.length c_a1), (11, .int .i64 ((a1.length : Int))), (12, .int .i64 t12_1), (23, .slice A1 ((List.take (Int.toNat x1) x2).length) c1), (24, .int .i64 (((List.take (Int.toNat x1) x2).length : Int))), (25, .int .i64 t25_1)] ∧ Hp w wl4 [.blk b1 24 [.slice A_a0_worth a0.worth.length c_a0_worth]]) FU ⟨_, ?_, t5_4, ((0 : Int)), F, rfl, H⟩ ?_
        · exact ⟨rfl, rfl, rfl, rfl, rfl, rfl, (look_slice rfl (by first | rfl | (simp; done) | (simp; omega))), rfl, rfl, trivial⟩
        rintro mk2 _ wl4 ⟨t5_3, t25_1, F, rfl, H⟩
        have R0 := H.ext
        replace F := cut_worth_L1_s F
        obtain ⟨mk2, rfl, F⟩ := F
        generalize hrec2 : cut_worth_L1 t12_1 rec1 x1 x2 mk2 = rec2 at F
        unfold cut_worth_B1 at F
        refine CW.seq fun K11 hK11 => ?_
        refine CW.region ?_
        refine LW.pure rfl rfl (RV.lss rfl rfl) ?_
        refine LW.nil (hK11 _ _ ?_)
        refine CW.seq fun K12 hK12 => ?_
        by_cases hp2 : t25_1 < (((List.take (Int.toNat x1) x2).length : Int))
        ·
          replace F := ite_y hp2 F
          have hq2 := dec_t hp2
          refine CW.condT rfl hq2 ?_
          refine CW.skip (hK12 _ _ ?_)
          refine CW.seq fun K13 hK13 => ?_
          refine CW.block ?_
          refine CW.seq fun K14 hK14 => ?_
          obtain ⟨x3, hbx3, hx3, F⟩ := ix_some F
          refine CW.region ?_
          refine LW.pure rfl rfl (RV.indexAddr Ts25 rfl rfl hbx3 (((hS1.ext R0).cutH hg2).addr_ hx3)) ?_
          refine LW.pure rfl rfl (RV.load1 Tk3 rfl (((hS1.ext R0).cutH hg2).at_ hx3) rfl) ?_
          refine LW.pure rfl rfl (RV.assign rfl) ?_
          refine LW.nil (hK14 _ _ ?_)
          obtain ⟨hg3, F⟩ := gd_some F
          refine CW.region ?_
          refine LW.pure rfl rfl (RV.move rfl) ?_
          refine LW.pure rfl rfl (RV.move rfl) ?_
          refine LW.pure rfl rfl (RV.add rfl rfl hg3) ?_
          refine LW.pure rfl rfl (RV.assign rfl) ?_
          refine LW.nil (hK13 _ _ ?_)
          obtain ⟨hg4, F⟩ := gd_some F
          refine CW.region ?_
          refine LW.pure rfl rfl (RV.add rfl rfl hg4) ?_
          refine LW.pure rfl rfl (RV.move rfl) ?_
          refine LW.nil ?_
          subst hrec2
          refine ⟨mk2, Nat.lt_succ_self _, _, ?_, (t5_3 + x3), (t25_1 + 1), F, rfl, H⟩
          exact ⟨rfl, rfl, rfl, rfl, rfl, rfl, (look_slice rfl (by first | rfl | (simp; done) | (simp; omega))), rfl, rfl, trivial⟩
        ·
          replace F := ite_n hp2 F
          have hq2 := dec_f hp2
          refine CW.condF rfl hq2 ?_
          refine CW.exit (jK370 _ _ ⟨_, ?_, ⟨t5_3, F, rfl, H⟩⟩)
          exact ⟨rfl, rfl, rfl, rfl, rfl, rfl, trivial⟩
    ·
      replace F := ite_n hp1 F
      have hq1 := dec_f hp1
      refine CW.condF rfl hq1 ?_
      replace H := H.pick (L' := []) [] (by decide) rfl
      replace R0 := H.ext
      refine CW.exit (jK290 _ _ ⟨_, ?_, ⟨t5_4, F, rfl, H⟩⟩)
      exact ⟨rfl, rfl, trivial⟩
set_option maxRecDepth 20000 in
set_option maxHeartbeats 1000000 in
theorem cut_joined_ok {a0 : List Int} {a1 : List Int} {a2 : Int → Int → Option Int} {A_a0 : Option Addr} {c_a0 : Nat} {A_a1 : Option Addr} {c_a1 : Nat} {f_a2 : Nat} {p_a2 : Array Value} {q_a2 : Array Value} {w : World} {res : (List Int)} (h_a0 : Sl w A_a0 c_a0 1 (a0.map encN)) (h_a1 : Sl w A_a1 c_a1 1 (a1.map encN)) (h_a2 : ∀ (x3 : Int) (x4 : Int) (r : Int), a2 x3 x4 = some r → ∀ w1, Ext w w1 → CallsV Try.prog f_a2 p_a2 q_a2 #[.int .i64 x3, .int .i64 x4] w1 (Rt w1 (.int .i64 r))) (F : cut_joined a0 a1 a2 = some res) : Calls Try.prog 84 #[.slice A_a0 a0.length c_a0, .slice A_a1 a1.length c_a1, .func (.func f_a2) p_a2 q_a2] w (fun e w' => ∃ (A1 : Option Addr) (c1 : Nat), e = .returned (.slice A1 res.length c1) ∧ Hp w w' [.own A1 c1 3 1 (List.map encN res)]) := by
  refine calls_of_cw (args := [.slice A_a0 a0.length c_a0, .slice A_a1 a1.length c_a1, .func (.func f_a2) p_a2 q_a2]) Try.func84 rfl rfl rfl rfl ?_
  have H := Hp.start w
  have R0 := H.ext
  unfold cut_joined at F
  refine CW.seq fun K1 hK1 => ?_
  refine CW.region ?_
  refine LW.pure rfl rfl (RV.assign rfl) ?_
  refine LW.nil (hK1 _ _ ?_)
  refine CW.seq fun K2 hK2 => ?_
  refine CW.region ?_
  refine LW.pure rfl rfl (RV.assign rfl) ?_
  refine LW.nil (hK2 _ _ ?_)
  refine CW.seqJ (fun ρ wl1 => (∃ (l1 : List Int) (Al1 : Option Addr) (cl1 : Nat), cut_joined_k1 l1 = some res ∧ ρ = [(6, .slice none 0 0), (7, .slice Al1 l1.length cl1)] ∧ Hp w wl1 [.own Al1 cl1 3 1 (List.map encN l1)])) ?_ ?_
  ·
    rintro _ wl1 ⟨l1, Al1, cl1, F, rfl, H⟩
    have R0 := H.ext
    unfold cut_joined_k1 at F
    refine CW.seq fun K3 hK3 => ?_
    refine CW.region ?_
    refine LW.pure rfl rfl (RV.move rfl) ?_
    refine LW.pure rfl rfl (RV.assign rfl) ?_
    refine LW.nil (hK3 _ _ ?_)
    refine CW.ret ?_
    obtain rfl := Option.some.inj F
    refine ⟨_, (ResOK.one rfl), ?_⟩
    exact ⟨Al1, cl1, (by first | rfl | (simp; done) | (simp; omega)), H⟩
  ·
    intro K4 hK4 jK47
    refine CW.seq fun K5 hK5 => ?_
    refine CW.region ?_
    refine LW.pure rfl rfl (RV.move rfl) ?_
    refine LW.pure rfl rfl (RV.len Ts25 rfl) ?_
    refine LW.pure rfl rfl (RV.move rfl) ?_
    refine LW.nil (hK5 _ _ ?_)
    refine CW.block ?_
    replace H := H.nilOwn 3 1
    replace R0 := H.ext
    refine CW.loop (fun meas ρ wl2 => ∃ (t11_1 : Int) (l2 : List Int) (Al2 : Option Addr) (cl2 : Nat), cut_joined_L1 a0 a1 a2 meas t11_1 l2 = some res ∧ ρ = [(0, .slice A_a0 a0.length c_a0), (1, .slice A_a1 a1.length c_a1), (2, .func (.func f_a2) p_a2 q_a2), (6, .slice none 0 0), (7, .slice Al2 l2.length cl2), (10, .int .i64 ((a0.length : Int))), (11, .int .i64 t11_1)] ∧ Hp w wl2 [.own Al2 cl2 3 1 (List.map encN l2)]) FU ⟨_, ?_, ((0 : Int)), (([] : List Int)), none, 0, F, rfl, H⟩ ?_
    · exact ⟨rfl, rfl, rfl, rfl, (look_slice rfl (by first | rfl | (simp; done) | (simp; omega))), rfl, rfl, trivial⟩
    rintro mk1 _ wl2 ⟨t11_1, l2, Al2, cl2, F, rfl, H⟩
    have R0 := H.ext
    replace F := cut_joined_L1_s F
    obtain ⟨mk1, rfl, F⟩ := F
    generalize hrec1 : cut_joined_L1 a0 a1 a2 mk1 = rec1 at F
    unfold cut_joined_B1 at F
    refine CW.seq fun K6 hK6 => ?_
    refine CW.region ?_
    refine LW.pure rfl rfl (RV.lss rfl rfl) ?_
    refine LW.nil (hK6 _ _ ?_)
    refine CW.seq fun K7 hK7 => ?_
    by_cases hp1 : t11_1 < ((a0.length : Int))
    ·
      replace F := ite_y hp1 F
      have hq1 := dec_t hp1
      refine CW.condT rfl hq1 ?_
      refine CW.skip (hK7 _ _ ?_)
      refine CW.seq fun K8 hK8 => ?_
      refine CW.block ?_
      refine CW.seq fun K9 hK9 => ?_
      refine CW.region ?_
      refine LW.pure rfl rfl (RV.move rfl) ?_
      refine LW.pure rfl rfl (RV.assign rfl) ?_
      refine LW.nil (hK9 _ _ ?_)
      obtain ⟨x1, hbx1, hx1, F⟩ := ix_some F
      obtain ⟨x2, hbx2, hx2, F⟩ := ix_some F
      obtain ⟨r1, hr1, F⟩ := bnd_some F
      obtain ⟨hg1, F⟩ := gd_some F
      have H0 := H
      have hz : wl2.heap.size ≤ wl2.heap.size := Nat.le_refl _
      refine CW.draw [12] (XB wl2 [.own Al2 cl2 3 1 (List.map encN l2)] [0]) (.cons 0 1 (.cons 1 2 (.cons 2 2 (.cons 3 2 (.cons 4 2 (.cons 5 2 (.cons 6 2 (.cons 7 2 (.cons 8 2 (.cons 9 2 (.cons 10 0 (.cons 11 0 (.cons 12 0 (.cons 13 2 .nil)))))))))))))) mixed (by kernel_rfl) fun w2 E1 => ?_
      replace H := H.grow E1
      replace R0 := H.ext
      replace hz := Nat.le_trans hz (Ext.size E1)
      refine DW.fix rfl rfl rfl (fun _ EQ => RV.move rfl) ?_
      refine DW.thru rfl rfl rfl (fun _ EQ => RV.move rfl) ?_
      refine DW.thru rfl rfl rfl (fun _ EQ => RV.move rfl) ?_
      refine DW.thru rfl rfl rfl (fun _ EQ => RV.move rfl) ?_
      refine DW.thru rfl rfl rfl (fun _ EQ => RV.indexAddr Ts25 rfl rfl hbx1 (h_a0.addr_ hx1)) ?_
      refine DW.thru rfl rfl rfl (fun _ EQ => RV.load1 Tk3 rfl (H0.old EQ R0 (h_a0.at_ hx1)) rfl) ?_
      refine DW.thru rfl rfl rfl (fun _ EQ => RV.move rfl) ?_
      refine DW.thru rfl rfl rfl (fun _ EQ => RV.move rfl) ?_
      refine DW.thru rfl rfl rfl (fun _ EQ => RV.indexAddr Ts25 rfl rfl hbx2 (h_a1.addr_ hx2)) ?_
      refine DW.thru rfl rfl rfl (fun _ EQ => RV.load1 Tk3 rfl (H0.old EQ R0 (h_a1.at_ hx2)) rfl) ?_
      refine DW.sole rfl rfl rfl (OW.callV2 rfl rfl rfl (h_a2 _ _ _ hr1 _ R0) ?_)
      rintro _ w3 ⟨rfl, E2⟩
      refine ⟨_, rfl, fun _ => E2, ModX.ext E2, ?_⟩
      replace H := H.grow E2
      replace R0 := H.ext
      replace hz := Nat.le_trans hz (Ext.size E2)
      refine DW.sole rfl rfl rfl (OW.buildSlice (e := 3) (vs := [.int .i64 r1]) (cs := [.int .i64 r1]) rfl (fun _ => by kernel_rfl) fun b1 w4 N1 => ?_)
      refine ⟨fun _ => N1.ext, ModX.ext N1.ext, ?_⟩
      have G0_b1 : wl2.heap.size ≤ b1 := by rw [N1.at_]; exact hz
      replace H := H.made' (k := 1) (t := 3) (enc := encN) (l := ([r1] : List Int)) N1 N1.blk (fun _ => rfl) rfl (by first | decide | omega | (simp; done) | (simp; omega))
      replace R0 := H.ext
      replace hz := Nat.le_trans hz (Ext.size N1.ext)
      refine DW.sole rfl rfl rfl (OW.appendG (enc := encN) (l := l2) (xs := ([r1] : List Int)) Ts25 rfl (look_slice rfl (by first | rfl | (simp; done) | (simp; omega))) (H.own 1 rfl) (H.own 0 rfl).sl (fun _ => rfl) rfl rfl hg1 (by decide) fun A2 c2 w5 O1 M1 D1 => ?_)
      refine ⟨fun h => absurd h (by decide), M1.modx (XB.own_ 0 (by decide) rfl), ?_⟩
      replace H : Hp w w5 [.own (some ⟨b1, 0, none⟩) ((([r1] : List Int)).length) 3 1 (List.map encN (([r1] : List Int))), .own A2 c2 3 1 (List.map encN ((l2 ++ ([r1] : List Int))))] := H.mod 1 rfl M1 O1 D1
      replace R0 := H.ext
      replace hz := Nat.le_trans hz M1.size
      refine DW.thru rfl rfl rfl (fun _ EQ => RV.assign rfl) ?_
      refine DW.nil (hK8 _ _ ?_)
      obtain ⟨hg2, F⟩ := gd_some F
      refine CW.region ?_
      refine LW.pure rfl rfl (RV.add rfl rfl hg2) ?_
      refine LW.pure rfl rfl (RV.move rfl) ?_
      refine LW.nil ?_
      replace H := H.pick (L' := [.own A2 c2 3 1 (List.map encN ((l2 ++ ([r1] : List Int))))]) [1] (by decide) rfl
      replace R0 := H.ext
      subst hrec1
      refine ⟨mk1, Nat.lt_succ_self _, _, ?_, (t11_1 + 1), ((l2 ++ ([r1] : List Int))), A2, c2, F, rfl, H⟩
      exact ⟨rfl, rfl, rfl, rfl, (look_slice rfl (by first | rfl | (simp; done) | (simp; omega))), rfl, rfl, trivial⟩
    ·
      replace F := ite_n hp1 F
      have hq1 := dec_f hp1
      refine CW.condF rfl hq1 ?_
      refine CW.exit (jK47 _ _ ⟨_, ?_, ⟨l2, Al2, cl2, F, rfl, H⟩⟩)
      exact ⟨rfl, (look_slice rfl (by first | rfl | (simp; done) | (simp; omega))), trivial⟩
set_option maxRecDepth 20000 in
set_option maxHeartbeats 1000000 in
theorem cut_best_ok {a0 : Bog} {a1 : Int → Int → Option Int} {A_a0_worth : Option Addr} {c_a0_worth : Nat} {f_a1 : Nat} {p_a1 : Array Value} {q_a1 : Array Value} {w : World} {res : (List Int) × Int} (h_a0_worth : Sl2 w A_a0_worth c_a0_worth 1 encN a0.worth) (h_a1 : ∀ (x8 : Int) (x9 : Int) (r : Int), a1 x8 x9 = some r → ∀ w1, Ext w w1 → CallsV Try.prog f_a1 p_a1 q_a1 #[.int .i64 x8, .int .i64 x9] w1 (Rt w1 (.int .i64 r))) (F : cut_best a0 a1 = some res) : Calls Try.prog 73 #[.agg #[.slice A_a0_worth a0.worth.length c_a0_worth], .func (.func f_a1) p_a1 q_a1] w (fun e w' => ∃ (A0 : Option Addr) (c0 : Nat), e = .returned (.tuple #[.slice A0 res.1.length c0, .int .i64 res.2]) ∧ Hp w w' [.own A0 c0 3 1 (List.map encN res.1)]) := by
  refine calls_of_cw (args := [.agg #[.slice A_a0_worth a0.worth.length c_a0_worth], .func (.func f_a1) p_a1 q_a1]) Try.func73 rfl rfl rfl rfl ?_
  have H := Hp.start w
  have R0 := H.ext
  unfold cut_best at F
  refine CW.seq fun K1 hK1 => ?_
  refine CW.region ?_
  refine LW.go rfl rfl (OW.box rfl fun b1 w2 N1 => ?_)
  replace H := H.new N1 N1.blk
  replace R0 := H.ext
  refine LW.pure rfl rfl (RV.assign rfl) ?_
  refine LW.pure rfl rfl (RV.assign rfl) ?_
  refine LW.nil (hK1 _ _ ?_)
  refine CW.seq fun K2 hK2 => ?_
  refine CW.region ?_
  refine LW.pure rfl rfl (RV.assign rfl) ?_
  refine LW.nil (hK2 _ _ ?_)
  refine CW.seq fun K3 hK3 => ?_
  refine CW.region ?_
  refine LW.pure rfl rfl (RV.assign rfl) ?_
  refine LW.nil (hK3 _ _ ?_)
  refine CW.seqJ (fun ρ wl1 => (∃ (t7_1 : Int) (l1 : List Int) (Al1 : Option Addr) (cl1 : Nat), cut_best_k1 t7_1 l1 = some res ∧ ρ = [(4, .slice none 0 0), (5, .int .i64 0), (6, .slice Al1 l1.length cl1), (7, .int .i64 t7_1)] ∧ Hp w wl1 [.own Al1 cl1 3 1 (List.map encN l1)])) ?_ ?_
  ·
    rintro _ wl1 ⟨t7_1, l1, Al1, cl1, F, rfl, H⟩
    have R0 := H.ext
    unfold cut_best_k1 at F
    refine CW.seq fun K4 hK4 => ?_
    refine CW.region ?_
    refine LW.pure rfl rfl (RV.move rfl) ?_
    refine LW.pure rfl rfl (RV.move rfl) ?_
    refine LW.pure rfl rfl (RV.assign rfl) ?_
    refine LW.pure rfl rfl (RV.assign rfl) ?_
    refine LW.nil (hK4 _ _ ?_)
    refine CW.ret ?_
    obtain rfl := Option.some.inj F
    refine ⟨_, (ResOK.two rfl rfl), ?_⟩
    exact ⟨Al1, cl1, (by first | rfl | (simp; done) | (simp; omega)), H⟩
  ·
    intro K5 hK5 jK130
    refine CW.seq fun K6 hK6 => ?_
    obtain ⟨r4, hr4, F⟩ := bnd_some F
    refine CW.region ?_
    refine LW.pure rfl rfl (RV.loadA [.slice A_a0_worth a0.worth.length c_a0_worth] Tk24 rfl (H.blk 0 rfl).cells rfl rfl) ?_
    refine LW.go rfl rfl (OW.call Tc88 rfl (cut_all_ok (a0 := a0) (h_a0_worth.ext R0) hr4) ?_)
    rintro _ w3 ⟨A59_0, c59_0, rfl, E1⟩
    refine ⟨_, rfl, ?_⟩
    replace H : Hp w w3 [.own A59_0 c59_0 87 6 (List.map encArr6 r4), .blk b1 24 [.slice A_a0_worth a0.worth.length c_a0_worth]] := H.append E1
    replace R0 := H.ext
    refine LW.pure rfl rfl (RV.len Ts82 rfl) ?_
    refine LW.pure rfl rfl (RV.move rfl) ?_
    refine LW.nil (hK6 _ _ ?_)
    refine CW.block ?_
    replace H := H.nilOwn 3 1
    replace R0 := H.ext
    refine CW.loop (fun meas ρ wl2 => ∃ (t7_3 : Int) (t15_1 : Int) (l3 : List Int) (Al3 : Option Addr) (cl3 : Nat), cut_best_L1 a0 a1 r4 meas t7_3 t15_1 l3 = some res ∧ ρ = [(1, .func (.func f_a1) p_a1 q_a1), (2, .pointer (some (⟨b1, 0, none⟩))), (4, .slice none 0 0), (5, .int .i64 0), (6, .slice Al3 l3.length cl3), (7, .int .i64 t7_3), (13, .slice A59_0 r4.length c59_0), (14, .int .i64 ((r4.length : Int))), (15, .int .i64 t15_1)] ∧ Hp w wl2 [.own Al3 cl3 3 1 (List.map encN l3), .own A59_0 c59_0 87 6 (List.map encArr6 r4), .blk b1 24 [.slice A_a0_worth a0.worth.length c_a0_worth]]) FU ⟨_, ?_, ((0 : Int)), ((0 : Int)), (([] : List Int)), none, 0, F, rfl, H⟩ ?_
    · exact ⟨rfl, rfl, rfl, rfl, (look_slice rfl (by first | rfl | (simp; done) | (simp; omega))), rfl, (look_slice rfl (by first | rfl | (simp; done) | (simp; omega))), rfl, rfl, trivial⟩
    rintro mk1 _ wl2 ⟨t7_3, t15_1, l3, Al3, cl3, F, rfl, H⟩
    have R0 := H.ext
    replace F := cut_best_L1_s F
    obtain ⟨mk1, rfl, F⟩ := F
    generalize hrec1 : cut_best_L1 a0 a1 r4 mk1 = rec1 at F
    unfold cut_best_B1 at F
    refine CW.seq fun K7 hK7 => ?_
    refine CW.region ?_
    refine LW.pure rfl rfl (RV.lss rfl rfl) ?_
    refine LW.nil (hK7 _ _ ?_)
    refine CW.seq fun K8 hK8 => ?_
    by_cases hp1 : t15_1 < ((r4.length : Int))
    ·
      replace F := ite_y hp1 F
      have hq1 := dec_t hp1
      refine CW.condT rfl hq1 ?_
      refine CW.skip (hK8 _ _ ?_)
      refine CW.seqJ (fun ρ wl3 => (∃ (t7_2 : Int) (l2 : List Int) (Al2 : Option Addr) (cl2 : Nat), cut_best_k2 t15_1 rec1 t7_2 l2 = some res ∧ ρ = [(1, .func (.func f_a1) p_a1 q_a1), (2, .pointer (some (⟨b1, 0, none⟩))), (4, .slice none 0 0), (5, .int .i64 0), (6, .slice Al2 l2.length cl2), (7, .int .i64 t7_2), (13, .slice A59_0 r4.length c59_0), (14, .int .i64 ((r4.length : Int))), (15, .int .i64 t15_1)] ∧ Hp w wl3 [.own Al2 cl2 3 1 (List.map encN l2), .own A59_0 c59_0 87 6 (List.map encArr6 r4), .blk b1 24 [.slice A_a0_worth a0.worth.length c_a0_worth]])) ?_ ?_
      ·
        rintro _ wl3 ⟨t7_2, l2, Al2, cl2, F, rfl, H⟩
        have R0 := H.ext
        unfold cut_best_k2 at F
        obtain ⟨hg1, F⟩ := gd_some F
        refine CW.region ?_
        refine LW.pure rfl rfl (RV.add rfl rfl hg1) ?_
        refine LW.pure rfl rfl (RV.move rfl) ?_
        refine LW.nil ?_
        subst hrec1
        refine ⟨mk1, Nat.lt_succ_self _, _, ?_, t7_2, (t15_1 + 1), l2, Al2, cl2, F, rfl, H⟩
        exact ⟨rfl, rfl, rfl, rfl, (look_slice rfl (by first | rfl | (simp; done) | (simp; omega))), rfl, (look_slice rfl (by first | rfl | (simp; done) | (simp; omega))), rfl, rfl, trivial⟩
      ·
        intro K9 hK9 jK165
        refine CW.block ?_
        refine CW.seq fun K10 hK10 => ?_
        obtain ⟨x1, hbx1, hx1, F⟩ := ix_some F
        refine CW.region ?_
        refine LW.pure rfl rfl (RV.move rfl) ?_
        refine LW.pure rfl rfl (RV.indexAddr Ts82 rfl rfl hbx1 ((H.own 1 rfl).sl.addr_ hx1)) ?_
        refine LW.pure rfl rfl (RV.loadA [.int .i64 x1.at0, .int .i64 x1.at1, .int .i64 x1.at2, .int .i64 x1.at3, .int .i64 x1.at4, .int .i64 x1.at5] Tk87 rfl ((H.own 1 rfl).sl.at_ hx1) rfl rfl) ?_
        refine LW.go rfl rfl (OW.alloc Tz87 fun b2 w4 N2 => ?_)
        replace H := H.made' (k := 1) (t := 87) (enc := encN) (l := ([0, 0, 0, 0, 0, 0] : List Int)) N2 N2.blk (fun _ => rfl) rfl (by first | decide | (simp; done) | (simp; omega))
        replace R0 := H.ext
        refine LW.pure rfl rfl (RV.assign rfl) ?_
        refine LW.go rfl rfl (OW.storeArr (l' := ([x1.at0, x1.at1, x1.at2, x1.at3, x1.at4, x1.at5] : List Int)) (vs := [.int .i64 x1.at0, .int .i64 x1.at1, .int .i64 x1.at2, .int .i64 x1.at3, .int .i64 x1.at4, .int .i64 x1.at5]) Tk87 rfl rfl (H.own 0 rfl) (fun _ => rfl) (by first | rfl | omega | (simp; done) | (simp; omega)) rfl rfl rfl rfl fun w5 M1 O1 => ?_)
        replace H : Hp w w5 [.own (some ⟨b2, 0, none⟩) 6 87 1 (List.map encN (([x1.at0, x1.at1, x1.at2, x1.at3, x1.at4, x1.at5] : List Int))), .own Al3 cl3 3 1 (List.map encN l3), .own A59_0 c59_0 87 6 (List.map encArr6 r4), .blk b1 24 [.slice A_a0_worth a0.worth.length c_a0_worth]] := H.mod 0 rfl M1 O1 (.inl rfl)
        replace R0 := H.ext
        refine LW.nil (hK10 _ _ ?_)
        refine CW.seq fun K11 hK11 => ?_
        obtain ⟨hg2, F⟩ := gd_some F
        obtain ⟨x2, hbx2, hx2, F⟩ := ix_some F
        obtain ⟨x3, hbx3, hx3, F⟩ := ix_some F
        obtain ⟨x4, hbx4, hx4, F⟩ := ix_some F
        obtain ⟨x5, hbx5, hx5, F⟩ := ix_some F
        obtain ⟨x6, hbx6, hx6, F⟩ := ix_some F
        obtain ⟨x7, hbx7, hx7, F⟩ := ix_some F
        obtain ⟨r1, hr1, F⟩ := bnd_some F
        refine CW.region ?_
        have hL1 := list6 hg2 hx2 hx3 hx4 hx5 hx6 hx7
        refine LW.pure rfl rfl (RV.loadA (vs := [.int .i64 x2, .int .i64 x3, .int .i64 x4, .int .i64 x5, .int .i64 x6, .int .i64 x7]) [.int .i64 x2, .int .i64 x3, .int .i64 x4, .int .i64 x5, .int .i64 x6, .int .i64 x7] Tk87 rfl (fun j v hj => (H.own 0 rfl).flat j v (by rw [hL1]; exact hj)) rfl rfl) ?_
        refine LW.pure rfl rfl (RV.loadA [.slice A_a0_worth a0.worth.length c_a0_worth] Tk24 rfl (H.blk 3 rfl).cells rfl rfl) ?_
        refine LW.go rfl rfl (OW.call Tc91 rfl (cut_hollow_list_ok (a0 := (⟨x2, x3, x4, x5, x6, x7⟩ : Arr6)) (a1 := a0) (h_a0_worth.ext R0) hr1) ?_)
        rintro _ w6 ⟨A76_0, c76_0, rfl, E2⟩
        refine ⟨_, rfl, ?_⟩
        replace H : Hp w w6 [.own A76_0 c76_0 3 1 (List.map encN r1), .own (some ⟨b2, 0, none⟩) 6 87 1 (List.map encN (([x1.at0, x1.at1, x1.at2, x1.at3, x1.at4, x1.at5] : List Int))), .own Al3 cl3 3 1 (List.map encN l3), .own A59_0 c59_0 87 6 (List.map encArr6 r4), .blk b1 24 [.slice A_a0_worth a0.worth.length c_a0_worth]] := H.append E2
        replace R0 := H.ext
        refine LW.pure rfl rfl (RV.assign rfl) ?_
        refine LW.nil (hK11 _ _ ?_)
        refine CW.seq fun K12 hK12 => ?_
        obtain ⟨r2, hr2, F⟩ := bnd_some F
        refine CW.region ?_
        refine LW.pure rfl rfl (RV.loadA [.slice A_a0_worth a0.worth.length c_a0_worth] Tk24 rfl (H.blk 4 rfl).cells rfl rfl) ?_
        refine LW.pure rfl rfl (RV.move rfl) ?_
        refine LW.go rfl rfl (OW.call Tc65 rfl (cut_worth_ok (a0 := a0) (a1 := r1) (h_a0_worth.ext R0) (H.own 0 rfl).sl hr2) ?_)
        rintro _ w7 ⟨rfl, E3⟩
        refine ⟨_, rfl, ?_⟩
        replace H := H.grow E3
        replace R0 := H.ext
        refine LW.pure rfl rfl (RV.assign rfl) ?_
        refine LW.nil (hK12 _ _ ?_)
        refine CW.block ?_
        refine CW.seqJ (fun ρ wl4 => (∃ (t26_1 : Bool), cut_best_k3 a1 t7_3 t15_1 l3 rec1 r1 r2 t26_1 = some res ∧ ρ = [(1, .func (.func f_a1) p_a1 q_a1), (2, .pointer (some (⟨b1, 0, none⟩))), (4, .slice none 0 0), (5, .int .i64 0), (6, .slice Al3 l3.length cl3), (7, .int .i64 t7_3), (10, .slice A76_0 r1.length c76_0), (11, .int .i64 r2), (13, .slice A59_0 r4.length c59_0), (14, .int .i64 ((r4.length : Int))), (15, .int .i64 t15_1), (26, .bool t26_1)] ∧ Hp w wl4 [.own Al3 cl3 3 1 (List.map encN l3), .own A76_0 c76_0 3 1 (List.map encN r1), .own A59_0 c59_0 87 6 (List.map encArr6 r4), .blk b1 24 [.slice A_a0_worth a0.worth.length c_a0_worth]])) ?_ ?_
        ·
          rintro _ wl4 ⟨t26_1, F, rfl, H⟩
          have R0 := H.ext
          unfold cut_best_k3 at F
          by_cases hp2 : t26_1 = true
          ·
            replace F := ite_y hp2 F
            have hq2 : t26_1 = true := hp2
            refine CW.condT rfl hq2 ?_
            refine CW.region ?_
            refine LW.pure rfl rfl (RV.move rfl) ?_
            refine LW.pure rfl rfl (RV.move rfl) ?_
            refine LW.pure rfl rfl (RV.assign rfl) ?_
            refine LW.pure rfl rfl (RV.assign rfl) ?_
            replace H := H.pick (L' := [.own A76_0 c76_0 3 1 (List.map encN r1), .own A59_0 c59_0 87 6 (List.map encArr6 r4), .blk b1 24 [.slice A_a0_worth a0.worth.length c_a0_worth]]) [1, 2, 3] (by decide) rfl
            replace R0 := H.ext
            refine LW.nil (jK165 _ _ ⟨_, ?_, ⟨r2, r1, A76_0, c76_0, F, rfl, H⟩⟩)
            exact ⟨rfl, rfl, rfl, rfl, (look_slice rfl (by first | rfl | (simp; done) | (simp; omega))), rfl, (look_slice rfl (by first | rfl | (simp; done) | (simp; omega))), rfl, rfl, trivial⟩
          ·
            replace F := ite_n hp2 F
            have hq2 : t26_1 = false := raw_f hp2
            refine CW.condF rfl hq2 ?_
            refine CW.seq fun K13 hK13 => ?_
            refine CW.region ?_
            refine LW.pure rfl rfl (RV.move rfl) ?_
            refine LW.pure rfl rfl (RV.move rfl) ?_
            refine LW.pure rfl rfl (RV.eqi rfl rfl) ?_
            refine LW.pure rfl rfl (RV.assign rfl) ?_
            refine LW.nil (hK13 _ _ ?_)
            by_cases hp3 : r2 = t7_3
            ·
              replace F := ite_y hp3 F
              have hq3 := dec_t hp3
              refine CW.condT rfl hq3 ?_
              obtain ⟨r3, hr3, F⟩ := bnd_some F
              refine CW.region ?_
              refine LW.pure rfl rfl (RV.move rfl) ?_
              refine LW.pure rfl rfl (RV.move rfl) ?_
              refine LW.pure rfl rfl (RV.move rfl) ?_
              refine LW.go rfl rfl (OW.call Tc84 rfl (cut_joined_ok (a0 := l3) (a1 := r1) (a2 := a1) (H.own 0 rfl).sl (H.own 1 rfl).sl (fun x8 x9 r hF w1 hE => h_a1 x8 x9 r hF w1 (R0.trans hE)) hr3) ?_)
              rintro _ w8 ⟨A80_0, c80_0, rfl, E4⟩
              refine ⟨_, rfl, ?_⟩
              replace H : Hp w w8 [.own A80_0 c80_0 3 1 (List.map encN r3), .own Al3 cl3 3 1 (List.map encN l3), .own A76_0 c76_0 3 1 (List.map encN r1), .own A59_0 c59_0 87 6 (List.map encArr6 r4), .blk b1 24 [.slice A_a0_worth a0.worth.length c_a0_worth]] := H.append E4
              replace R0 := H.ext
              refine LW.pure rfl rfl (RV.assign rfl) ?_
              replace H := H.pick (L' := [.own A80_0 c80_0 3 1 (List.map encN r3), .own A59_0 c59_0 87 6 (List.map encArr6 r4), .blk b1 24 [.slice A_a0_worth a0.worth.length c_a0_worth]]) [0, 3, 4] (by decide) rfl
              replace R0 := H.ext
              refine LW.nil (jK165 _ _ ⟨_, ?_, ⟨t7_3, r3, A80_0, c80_0, F, rfl, H⟩⟩)
              exact ⟨rfl, rfl, rfl, rfl, (look_slice rfl (by first | rfl | (simp; done) | (simp; omega))), rfl, (look_slice rfl (by first | rfl | (simp; done) | (simp; omega))), rfl, rfl, trivial⟩
            ·
              replace F := ite_n hp3 F
              have hq3 := dec_f hp3
              refine CW.condF rfl hq3 ?_
              replace H := H.pick (L' := [.own Al3 cl3 3 1 (List.map encN l3), .own A59_0 c59_0 87 6 (List.map encArr6 r4), .blk b1 24 [.slice A_a0_worth a0.worth.length c_a0_worth]]) [0, 2, 3] (by decide) rfl
              replace R0 := H.ext
              refine CW.skip (jK165 _ _ ⟨_, ?_, ⟨t7_3, l3, Al3, cl3, F, rfl, H⟩⟩)
              exact ⟨rfl, rfl, rfl, rfl, (look_slice rfl (by first | rfl | (simp; done) | (simp; omega))), rfl, (look_slice rfl (by first | rfl | (simp; done) | (simp; omega))), rfl, rfl, trivial⟩
        ·
          intro K14 hK14 jK170
          by_cases hp4 : t15_1 = 0
          ·
            replace F := ite_y hp4 F
            have hq4 := dec_t hp4
            refine CW.region ?_
            refine LW.pure rfl rfl (RV.move rfl) ?_
            refine LW.pure rfl rfl (RV.eqi rfl rfl) ?_
            refine LW.pure rfl rfl (RV.move rfl) ?_
            refine LW.noB rfl rfl rfl rfl (ne_beq (v := true) hq4 rfl) ?_
            refine LW.noB rfl rfl rfl rfl (ne_beq (v := true) hq4 rfl) ?_
            refine LW.noB rfl rfl rfl rfl (ne_beq (v := true) hq4 rfl) ?_
            refine LW.pure rfl rfl (RV.pickTB rfl hq4 rfl) ?_
            refine LW.pure rfl rfl (RV.assign rfl) ?_
            replace H := H.pick (L' := [.own Al3 cl3 3 1 (List.map encN l3), .own A76_0 c76_0 3 1 (List.map encN r1), .own A59_0 c59_0 87 6 (List.map encArr6 r4), .blk b1 24 [.slice A_a0_worth a0.worth.length c_a0_worth]]) [2, 0, 3, 4] (by decide) rfl
            replace R0 := H.ext
            refine LW.nil (jK170 _ _ ⟨_, ?_, ⟨true, F, rfl, H⟩⟩)
            exact ⟨rfl, rfl, rfl, rfl, (look_slice rfl (by first | rfl | (simp; done) | (simp; omega))), rfl, (look_slice rfl (by first | rfl | (simp; done) | (simp; omega))), rfl, (look_slice rfl (by first | rfl | (simp; done) | (simp; omega))), rfl, rfl, rfl, trivial⟩
          ·
            replace F := ite_n hp4 F
            have hq4 := dec_f hp4
            refine CW.region ?_
            refine LW.pure rfl rfl (RV.move rfl) ?_
            refine LW.pure rfl rfl (RV.eqi rfl rfl) ?_
            refine LW.pure rfl rfl (RV.move rfl) ?_
            refine LW.pureYB rfl rfl rfl rfl hq4 (RV.move rfl) ?_
            refine LW.pureYB rfl rfl rfl rfl hq4 (RV.move rfl) ?_
            refine LW.pureYB rfl rfl rfl rfl hq4 (RV.gtr rfl rfl) ?_
            refine LW.pure rfl rfl (RV.pickFB rfl hq4 rfl) ?_
            refine LW.pure rfl rfl (RV.assign rfl) ?_
            replace H := H.pick (L' := [.own Al3 cl3 3 1 (List.map encN l3), .own A76_0 c76_0 3 1 (List.map encN r1), .own A59_0 c59_0 87 6 (List.map encArr6 r4), .blk b1 24 [.slice A_a0_worth a0.worth.length c_a0_worth]]) [2, 0, 3, 4] (by decide) rfl
            replace R0 := H.ext
            refine LW.nil (jK170 _ _ ⟨_, ?_, ⟨(decide (t7_3 < r2)), F, rfl, H⟩⟩)
            exact ⟨rfl, rfl, rfl, rfl, (look_slice rfl (by first | rfl | (simp; done) | (simp; omega))), rfl, (look_slice rfl (by first | rfl | (simp; done) | (simp; omega))), rfl, (look_slice rfl (by first | rfl | (simp; done) | (simp; omega))), rfl, rfl, rfl, trivial⟩
    ·
      replace F := ite_n hp1 F
      have hq1 := dec_f hp1
      refine CW.condF rfl hq1 ?_
      replace H := H.pick (L' := [.own Al3 cl3 3 1 (List.map encN l3)]) [0] (by decide) rfl
      replace R0 := H.ext
      refine CW.exit (jK130 _ _ ⟨_, ?_, ⟨t7_3, l3, Al3, cl3, F, rfl, H⟩⟩)
      exact ⟨rfl, rfl, (look_slice rfl (by first | rfl | (simp; done) | (simp; omega))), rfl, trivial⟩
set_option maxRecDepth 20000 in
set_option maxHeartbeats 1000000 in
theorem cut_smaller_ok {a0 : Int} {a1 : Int} {w : World} {res : Int} (F : cut_smaller a0 a1 = some res) : Calls Try.prog 74 #[.int .i64 a0, .int .i64 a1] w (Rt w (.int .i64 res)) := by
  refine calls_of_cw (args := [.int .i64 a0, .int .i64 a1]) Try.func74 rfl rfl rfl rfl ?_
  have H := Hp.start w
  have R0 := H.ext
  unfold cut_smaller at F
  refine CW.seq fun K1 hK1 => ?_
  refine CW.region ?_
  refine LW.pure rfl rfl (RV.assign rfl) ?_
  refine LW.nil (hK1 _ _ ?_)
  refine CW.seq fun K2 hK2 => ?_
  refine CW.region ?_
  refine LW.pure rfl rfl (RV.move rfl) ?_
  refine LW.pure rfl rfl (RV.move rfl) ?_
  refine LW.pure rfl rfl (RV.min2 rfl rfl) ?_
  refine LW.pure rfl rfl (RV.assign rfl) ?_
  refine LW.nil (hK2 _ _ ?_)
  refine CW.ret ?_
  obtain rfl := Option.some.inj F
  refine ⟨_, (ResOK.one rfl), ?_⟩
  refine ⟨(by first | rfl | simp), R0⟩
set_option maxRecDepth 20000 in
set_option maxHeartbeats 1000000 in
theorem cut_Best_ok {a0 : Bog} {A_a0_worth : Option Addr} {c_a0_worth : Nat} {w : World} {res : (List Int) × Int × Int} (h_a0_worth : Sl2 w A_a0_worth c_a0_worth 1 encN a0.worth) (F : cut_Best a0 = some res) : Calls Try.prog 28 #[.agg #[.slice A_a0_worth a0.worth.length c_a0_worth]] w (fun e w' => ∃ (A0 : Option Addr) (c0 : Nat), e = .returned (.tuple #[.slice A0 res.1.length c0, .int .i64 res.2.1, .int .i64 res.2.2]) ∧ Hp w w' [.own A0 c0 3 1 (List.map encN res.1)]) := by
  refine calls_of_cw (args := [.agg #[.slice A_a0_worth a0.worth.length c_a0_worth]]) Try.func28 rfl rfl rfl rfl ?_
  have H := Hp.start w
  have R0 := H.ext
  unfold cut_Best at F
  refine CW.seq fun K1 hK1 => ?_
  refine CW.region ?_
  refine LW.go rfl rfl (OW.box rfl fun b1 w1 N1 => ?_)
  replace H := H.new N1 N1.blk
  replace R0 := H.ext
  refine LW.pure rfl rfl (RV.assign rfl) ?_
  refine LW.pure rfl rfl (RV.assign rfl) ?_
  refine LW.pure rfl rfl (RV.assign rfl) ?_
  refine LW.nil (hK1 _ _ ?_)
  refine CW.seq fun K2 hK2 => ?_
  refine CW.seq fun K3 hK3 => ?_
  obtain ⟨r1, hr1, F⟩ := bnd_some F
  refine CW.region ?_
  refine LW.pure rfl rfl (RV.loadA [.slice A_a0_worth a0.worth.length c_a0_worth] Tk24 rfl (H.blk 0 rfl).cells rfl rfl) ?_
  refine LW.go rfl rfl (OW.call Tc25 rfl (cut_Validate_ok (a0 := a0) (h_a0_worth.ext R0) hr1) ?_)
  rintro _ w2 ⟨rfl, E1⟩
  refine ⟨_, rfl, ?_⟩
  replace H := H.grow E1
  replace R0 := H.ext
  refine LW.pure rfl rfl (RV.assign rfl) ?_
  refine LW.nil (hK3 _ _ ?_)
  refine CW.seq fun K4 hK4 => ?_
  refine CW.region ?_
  refine LW.pure rfl rfl (RV.move rfl) ?_
  refine LW.pure rfl rfl (RV.nei rfl rfl) ?_
  refine LW.nil (hK4 _ _ ?_)
  by_cases hp1 : r1 = 0
  ·
    replace F := ite_y hp1 F
    have hq1 := dec_t hp1
    refine CW.condF rfl (not_f hq1) ?_
    refine CW.skip (hK2 _ _ ?_)
    refine CW.seq fun K5 hK5 => ?_
    obtain ⟨r2, hr2, F⟩ := bnd_some F
    refine CW.region ?_
    refine LW.pure rfl rfl (RV.loadA [.slice A_a0_worth a0.worth.length c_a0_worth] Tk24 rfl (H.blk 0 rfl).cells rfl rfl) ?_
    refine LW.go rfl rfl (OW.call Tc73 rfl (cut_best_ok (a0 := a0) (a1 := cut_smaller) (h_a0_worth.ext R0) (fun x0 x1 r hF w3 hE => CallsV.of Tc74 (cut_smaller_ok (a0 := x0) (a1 := x1) hF)) hr2) ?_)
    rintro _ w4 ⟨A6_0, c6_0, rfl, E2⟩
    refine ⟨_, rfl, ?_⟩
    replace H : Hp w w4 [.own A6_0 c6_0 3 1 (List.map encN r2.1), .blk b1 24 [.slice A_a0_worth a0.worth.length c_a0_worth]] := H.append E2
    replace R0 := H.ext
    refine LW.pure rfl rfl (RV.move rfl) ?_
    refine LW.pure rfl rfl (RV.extract rfl rfl) ?_
    refine LW.pure rfl rfl (RV.extract rfl rfl) ?_
    refine LW.pure rfl rfl (RV.assign rfl) ?_
    refine LW.pure rfl rfl (RV.assign rfl) ?_
    refine LW.nil (hK5 _ _ ?_)
    refine CW.seq fun K6 hK6 => ?_
    refine CW.region ?_
    refine LW.pure rfl rfl (RV.move rfl) ?_
    refine LW.pure rfl rfl (RV.move rfl) ?_
    refine LW.pure rfl rfl (RV.assign rfl) ?_
    refine LW.pure rfl rfl (RV.assign rfl) ?_
    refine LW.pure rfl rfl (RV.assign rfl) ?_
    refine LW.nil (hK6 _ _ ?_)
    refine CW.ret ?_
    obtain rfl := Option.some.inj F
    refine ⟨_, (ResOK.three rfl rfl rfl), ?_⟩
    replace H := H.pick (L' := [.own A6_0 c6_0 3 1 (List.map encN r2.1)]) [0] (by decide) rfl
    replace R0 := H.ext
    exact ⟨A6_0, c6_0, (by first | rfl | (simp; done) | (simp; omega)), H⟩
  ·
    replace F := ite_n hp1 F
    have hq1 := dec_f hp1
    refine CW.condT rfl (not_t hq1) ?_
    refine CW.seq fun K7 hK7 => ?_
    refine CW.region ?_
    refine LW.pure rfl rfl (RV.move rfl) ?_
    refine LW.pure rfl rfl (RV.assign rfl) ?_
    refine LW.pure rfl rfl (RV.assign rfl) ?_
    refine LW.pure rfl rfl (RV.assign rfl) ?_
    refine LW.nil (hK7 _ _ ?_)
    refine CW.ret ?_
    obtain rfl := Option.some.inj F
    refine ⟨_, (ResOK.three rfl rfl rfl), ?_⟩
    replace H := H.nilOwn 3 1
    replace R0 := H.ext
    replace H := H.pick (L' := [.own none 0 3 1 (List.map encN (([] : List Int)))]) [0] (by decide) rfl
    replace R0 := H.ext
    exact ⟨none, 0, (by first | rfl | (simp; done) | (simp; omega)), H⟩
set_option maxRecDepth 20000 in
set_option maxHeartbeats 1000000 in
theorem cut_Count_ok {a0 : Bog} {A_a0_worth : Option Addr} {c_a0_worth : Nat} {w : World} {res : Int × Int} (h_a0_worth : Sl2 w A_a0_worth c_a0_worth 1 encN a0.worth) (F : cut_Count a0 = some res) : Calls Try.prog 49 #[.agg #[.slice A_a0_worth a0.worth.length c_a0_worth]] w (Rt w (.tuple #[.int .i64 res.1, .int .i64 res.2])) := by
  refine calls_of_cw (args := [.agg #[.slice A_a0_worth a0.worth.length c_a0_worth]]) Try.func49 rfl rfl rfl rfl ?_
  have H := Hp.start w
  have R0 := H.ext
  unfold cut_Count at F
  refine CW.seq fun K1 hK1 => ?_
  refine CW.region ?_
  refine LW.go rfl rfl (OW.box rfl fun b1 w1 N1 => ?_)
  replace H := H.new N1 N1.blk
  replace R0 := H.ext
  refine LW.pure rfl rfl (RV.assign rfl) ?_
  refine LW.pure rfl rfl (RV.assign rfl) ?_
  refine LW.nil (hK1 _ _ ?_)
  refine CW.seq fun K2 hK2 => ?_
  refine CW.seq fun K3 hK3 => ?_
  obtain ⟨r1, hr1, F⟩ := bnd_some F
  refine CW.region ?_
  refine LW.pure rfl rfl (RV.loadA [.slice A_a0_worth a0.worth.length c_a0_worth] Tk24 rfl (H.blk 0 rfl).cells rfl rfl) ?_
  refine LW.go rfl rfl (OW.call Tc25 rfl (cut_Validate_ok (a0 := a0) (h_a0_worth.ext R0) hr1) ?_)
  rintro _ w2 ⟨rfl, E1⟩
  refine ⟨_, rfl, ?_⟩
  replace H := H.grow E1
  replace R0 := H.ext
  refine LW.pure rfl rfl (RV.assign rfl) ?_
  refine LW.nil (hK3 _ _ ?_)
  refine CW.seq fun K4 hK4 => ?_
  refine CW.region ?_
  refine LW.pure rfl rfl (RV.move rfl) ?_
  refine LW.pure rfl rfl (RV.nei rfl rfl) ?_
  refine LW.nil (hK4 _ _ ?_)
  by_cases hp1 : r1 = 0
  ·
    replace F := ite_y hp1 F
    have hq1 := dec_t hp1
    refine CW.condF rfl (not_f hq1) ?_
    refine CW.skip (hK2 _ _ ?_)
    refine CW.seq fun K5 hK5 => ?_
    obtain ⟨r2, hr2, F⟩ := bnd_some F
    refine CW.region ?_
    refine LW.pure rfl rfl (RV.loadA [.slice A_a0_worth a0.worth.length c_a0_worth] Tk24 rfl (H.blk 0 rfl).cells rfl rfl) ?_
    refine LW.go rfl rfl (OW.call Tc88 rfl (cut_all_ok (a0 := a0) (h_a0_worth.ext R0) hr2) ?_)
    rintro _ w3 ⟨A6_0, c6_0, rfl, E2⟩
    refine ⟨_, rfl, ?_⟩
    replace H : Hp w w3 [.own A6_0 c6_0 87 6 (List.map encArr6 r2), .blk b1 24 [.slice A_a0_worth a0.worth.length c_a0_worth]] := H.append E2
    replace R0 := H.ext
    refine LW.pure rfl rfl (RV.len Ts82 rfl) ?_
    refine LW.pure rfl rfl (RV.assign rfl) ?_
    refine LW.pure rfl rfl (RV.assign rfl) ?_
    refine LW.nil (hK5 _ _ ?_)
    refine CW.ret ?_
    obtain rfl := Option.some.inj F
    refine ⟨_, (ResOK.two rfl rfl), ?_⟩
    refine ⟨(by first | rfl | simp), R0⟩
  ·
    replace F := ite_n hp1 F
    have hq1 := dec_f hp1
    refine CW.condT rfl (not_t hq1) ?_
    refine CW.seq fun K6 hK6 => ?_
    refine CW.region ?_
    refine LW.pure rfl rfl (RV.move rfl) ?_
    refine LW.pure rfl rfl (RV.assign rfl) ?_
    refine LW.pure rfl rfl (RV.assign rfl) ?_
    refine LW.nil (hK6 _ _ ?_)
    refine CW.ret ?_
    obtain rfl := Option.some.inj F
    refine ⟨_, (ResOK.two rfl rfl), ?_⟩
    refine ⟨(by first | rfl | simp), R0⟩
end Go.D4

set_option linter.unusedVariables false
set_option linter.unusedSimpArgs false
namespace Go.D4
open Go.Tb Go.Proofs Go.RowKit
theorem Tc22 : callable Try.prog 22 = true := by kernel_rfl
theorem Tc28 : callable Try.prog 28 = true := by kernel_rfl
theorem Tc49 : callable Try.prog 49 = true := by kernel_rfl
theorem Tc61 : callable Try.prog 61 = true := by kernel_rfl
theorem Tc63 : callable Try.prog 63 = true := by kernel_rfl
theorem Tc64 : callable Try.prog 64 = true := by kernel_rfl
theorem Tc96 : callable Try.prog 96 = true := by kernel_rfl
set_option maxRecDepth 20000 in
set_option maxHeartbeats 1000000 in
theorem cut_isList_1_ok {cap0 : Bog} {a0 : Int} {A_cap0_worth : Option Addr} {c_cap0_worth : Nat} {b_cap0 : Nat} {w : World} {res : Bool} (h_cap0_worth : Sl2 w A_cap0_worth c_cap0_worth 1 encN cap0.worth) (hc_cap0 : Cells w ⟨b_cap0, 0, none⟩ [.slice A_cap0_worth cap0.worth.length c_cap0_worth]) (F : cut_isList_1 cap0 a0 = some res) : Calls Try.prog 96 #[.int .i64 a0, .pointer (some (⟨b_cap0, 0, none⟩))] w (Rt w (.bool res)) := by
  refine calls_of_cw (args := [.int .i64 a0, .pointer (some (⟨b_cap0, 0, none⟩))]) Try.func96 rfl rfl rfl rfl ?_
  have H := Hp.start w
  have R0 := H.ext
  unfold cut_isList_1 at F
  refine CW.seq fun K1 hK1 => ?_
  refine CW.region ?_
  refine LW.pure rfl rfl (RV.assign rfl) ?_
  refine LW.nil (hK1 _ _ ?_)
  refine CW.seq fun K2 hK2 => ?_
  obtain ⟨r1, hr1, F⟩ := bnd_some F
  obtain ⟨r2, hr2, F⟩ := bnd_some F
  refine CW.region ?_
  refine LW.pure rfl rfl (RV.move rfl) ?_
  refine LW.pure rfl rfl (RV.loadA [.slice A_cap0_worth cap0.worth.length c_cap0_worth] Tk24 rfl (hc_cap0.ext R0) rfl rfl) ?_
  refine LW.go rfl rfl (OW.call Tc68 rfl (cut_depth_ok (a0 := cap0) (h_cap0_worth.ext R0) hr1) ?_)
  rintro _ w1 ⟨rfl, E1⟩
  refine ⟨_, rfl, ?_⟩
  replace H := H.grow E1
  replace R0 := H.ext
  refine LW.go rfl rfl (OW.call Tc67 rfl (cut_from_ok (a0 := a0) (a1 := (0 : Int)) (a2 := r1) hr2) ?_)
  rintro _ w2 ⟨rfl, E2⟩
  refine ⟨_, rfl, ?_⟩
  replace H := H.grow E2
  replace R0 := H.ext
  refine LW.pure rfl rfl (RV.not rfl) ?_
  refine LW.pure rfl rfl (RV.assign rfl) ?_
  refine LW.nil (hK2 _ _ ?_)
  refine CW.ret ?_
  obtain rfl := Option.some.inj F
  refine ⟨_, (ResOK.one rfl), ?_⟩
  refine ⟨(by first | rfl | simp), R0⟩
set_option maxRecDepth 20000 in
set_option maxHeartbeats 1000000 in
theorem cut_isList_ok {a0 : Bog} {a1 : List Int} {A_a0_worth : Option Addr} {c_a0_worth : Nat} {A_a1 : Option Addr} {c_a1 : Nat} {w : World} {res : Int} (h_a0_worth : Sl2 w A_a0_worth c_a0_worth 1 encN a0.worth) (h_a1 : Sl w A_a1 c_a1 1 (a1.map encN)) (F : cut_isList a0 a1 = some res) : Calls Try.prog 63 #[.agg #[.slice A_a0_worth a0.worth.length c_a0_worth], .slice A_a1 a1.length c_a1] w (Rt w (.int .i64 res)) := by
  refine calls_of_cw (args := [.agg #[.slice A_a0_worth a0.worth.length c_a0_worth], .slice A_a1 a1.length c_a1]) Try.func63 rfl rfl rfl rfl ?_
  have H := Hp.start w
  have R0 := H.ext
  unfold cut_isList at F
  refine CW.seq fun K1 hK1 => ?_
  refine CW.region ?_
  refine LW.go rfl rfl (OW.box rfl fun b1 w1 N1 => ?_)
  replace H := H.new N1 N1.blk
  replace R0 := H.ext
  refine LW.pure rfl rfl (RV.assign rfl) ?_
  refine LW.nil (hK1 _ _ ?_)
  refine CW.seq fun K2 hK2 => ?_
  refine CW.seq fun K3 hK3 => ?_
  obtain ⟨r1, hr1, F⟩ := bnd_some F
  refine CW.region ?_
  refine LW.pure rfl rfl (RV.loadA [.slice A_a0_worth a0.worth.length c_a0_worth] Tk24 rfl (H.blk 0 rfl).cells rfl rfl) ?_
  refine LW.go rfl rfl (OW.call Tc25 rfl (cut_Validate_ok (a0 := a0) (h_a0_worth.ext R0) hr1) ?_)
  rintro _ w2 ⟨rfl, E1⟩
  refine ⟨_, rfl, ?_⟩
  replace H := H.grow E1
  replace R0 := H.ext
  refine LW.pure rfl rfl (RV.assign rfl) ?_
  refine LW.nil (hK3 _ _ ?_)
  refine CW.seq fun K4 hK4 => ?_
  refine CW.region ?_
  refine LW.pure rfl rfl (RV.move rfl) ?_
  refine LW.pure rfl rfl (RV.nei rfl rfl) ?_
  refine LW.nil (hK4 _ _ ?_)
  by_cases hp1 : r1 = 0
  ·
    replace F := ite_y hp1 F
    have hq1 := dec_t hp1
    refine CW.condF rfl (not_f hq1) ?_
    refine CW.skip (hK2 _ _ ?_)
    refine CW.seq fun K5 hK5 => ?_
    refine CW.seqJ (fun ρ wl1 => (∃ (t21_1 : Bool), cut_isList_k1 t21_1 = some res ∧ ρ = [(4, .int .i64 0), (21, .bool t21_1)] ∧ Hp w wl1 [])) ?_ ?_
    ·
      rintro _ wl1 ⟨t21_1, F, rfl, H⟩
      have R0 := H.ext
      unfold cut_isList_k1 at F
      by_cases hp2 : t21_1 = true
      ·
        replace F := ite_y hp2 F
        have hq2 : t21_1 = true := hp2
        refine CW.condT rfl hq2 ?_
        refine CW.seq fun K6 hK6 => ?_
        refine CW.region ?_
        refine LW.pure rfl rfl (RV.assign rfl) ?_
        refine LW.nil (hK6 _ _ ?_)
        refine CW.ret ?_
        obtain rfl := Option.some.inj F
        refine ⟨_, (ResOK.one rfl), ?_⟩
        refine ⟨(by first | rfl | simp), R0⟩
      ·
        replace F := ite_n hp2 F
        have hq2 : t21_1 = false := raw_f hp2
        refine CW.condF rfl hq2 ?_
        refine CW.skip (hK5 _ _ ?_)
        refine CW.seq fun K7 hK7 => ?_
        refine CW.region ?_
        refine LW.pure rfl rfl (RV.assign rfl) ?_
        refine LW.nil (hK7 _ _ ?_)
        refine CW.ret ?_
        obtain rfl := Option.some.inj F
        refine ⟨_, (ResOK.one rfl), ?_⟩
        refine ⟨(by first | rfl | simp), R0⟩
    ·
      intro K8 hK8 jK17
      by_cases hp3 : ((a1.length : Int)) = ((a0.worth.length : Int))
      ·
        replace F := ite_y hp3 F
        have hq3 := dec_t hp3
        obtain ⟨r2, hr2, F⟩ := bnd_some F
        refine CW.region ?_
        refine LW.pure rfl rfl (RV.move rfl) ?_
        refine LW.pure rfl rfl (RV.len Ts25 rfl) ?_
        refine LW.pure rfl rfl (RV.fieldAddr Tf24_0 rfl) ?_
        refine LW.pure rfl rfl (RV.load1 Tk22 rfl ((H.blk 0 rfl).cells.off 0) rfl) ?_
        refine LW.pure rfl rfl (RV.len Ts22 rfl) ?_
        refine LW.pure rfl rfl (RV.nei rfl rfl) ?_
        refine LW.pure rfl rfl (RV.move rfl) ?_
        refine LW.pureYB rfl rfl rfl rfl (not_f hq3) (RV.move rfl) ?_
        refine LW.pureYB rfl rfl rfl rfl (not_f hq3) (RV.makeFunc (fs := []) (cs := [.pointer (some (⟨b1, 0, none⟩))]) rfl rfl) ?_
        refine LW.yesB rfl rfl rfl rfl (not_f hq3) (OW.call Tc69 rfl (slices_ContainsFunc_int_ok (a0 := a1) (a1 := (fun x0 => cut_isList_1 a0 x0)) (h_a1.ext R0) (fun x0 r hF w3 hE => CallsV.cap Tc96 (by simp) (cut_isList_1_ok (cap0 := a0) (a0 := x0) ((h_a0_worth.ext R0).ext hE) ((H.blk 0 rfl).cells.ext hE) hF)) hr2) ?_)
        rintro _ w4 ⟨rfl, E2⟩
        refine ⟨_, rfl, ?_⟩
        replace H := H.grow E2
        replace R0 := H.ext
        refine LW.pure rfl rfl (RV.pickFB rfl (not_f hq3) rfl) ?_
        replace H := H.pick (L' := []) [] (by decide) rfl
        replace R0 := H.ext
        refine LW.nil (jK17 _ _ ⟨_, ?_, ⟨r2, F, rfl, H⟩⟩)
        exact ⟨rfl, rfl, trivial⟩
      ·
        replace F := ite_n hp3 F
        have hq3 := dec_f hp3
        refine CW.region ?_
        refine LW.pure rfl rfl (RV.move rfl) ?_
        refine LW.pure rfl rfl (RV.len Ts25 rfl) ?_
        refine LW.pure rfl rfl (RV.fieldAddr Tf24_0 rfl) ?_
        refine LW.pure rfl rfl (RV.load1 Tk22 rfl ((H.blk 0 rfl).cells.off 0) rfl) ?_
        refine LW.pure rfl rfl (RV.len Ts22 rfl) ?_
        refine LW.pure rfl rfl (RV.nei rfl rfl) ?_
        refine LW.pure rfl rfl (RV.move rfl) ?_
        refine LW.noB rfl rfl rfl rfl (ne_beq (v := true) (not_t hq3) rfl) ?_
        refine LW.noB rfl rfl rfl rfl (ne_beq (v := true) (not_t hq3) rfl) ?_
        refine LW.noB rfl rfl rfl rfl (ne_beq (v := true) (not_t hq3) rfl) ?_
        refine LW.pure rfl rfl (RV.pickTB rfl (not_t hq3) rfl) ?_
        replace H := H.pick (L' := []) [] (by decide) rfl
        replace R0 := H.ext
        refine LW.nil (jK17 _ _ ⟨_, ?_, ⟨true, F, rfl, H⟩⟩)
        exact ⟨rfl, rfl, trivial⟩
  ·
    replace F := ite_n hp1 F
    have hq1 := dec_f hp1
    refine CW.condT rfl (not_t hq1) ?_
    refine CW.seq fun K9 hK9 => ?_
    refine CW.region ?_
    refine LW.pure rfl rfl (RV.move rfl) ?_
    refine LW.pure rfl rfl (RV.assign rfl) ?_
    refine LW.nil (hK9 _ _ ?_)
    refine CW.ret ?_
    obtain rfl := Option.some.inj F
    refine ⟨_, (ResOK.one rfl), ?_⟩
    refine ⟨(by first | rfl | simp), R0⟩
set_option maxRecDepth 20000 in
set_option maxHeartbeats 1000000 in
theorem cut_right_ok {a0 : List Int} {A_a0 : Option Addr} {c_a0 : Nat} {w : World} {res : Bool} (h_a0 : Sl w A_a0 c_a0 1 (a0.map encN)) (F : cut_right a0 = some res) : Calls Try.prog 64 #[.slice A_a0 a0.length c_a0] w (Rt w (.bool res)) := by
  refine calls_of_cw (args := [.slice A_a0 a0.length c_a0]) Try.func64 rfl rfl rfl rfl ?_
  have H := Hp.start w
  have R0 := H.ext
  unfold cut_right at F
  refine CW.seq fun K1 hK1 => ?_
  refine CW.region ?_
  refine LW.pure rfl rfl (RV.assign rfl) ?_
  refine LW.nil (hK1 _ _ ?_)
  refine CW.seqJ (fun ρ wl1 => (cut_right_k1 = some res ∧ ρ = [(2, .bool false)] ∧ Hp w wl1 [])) ?_ ?_
  ·
    rintro _ wl1 ⟨F, rfl, H⟩
    have R0 := H.ext
    unfold cut_right_k1 at F
    refine CW.seq fun K2 hK2 => ?_
    refine CW.region ?_
    refine LW.pure rfl rfl (RV.assign rfl) ?_
    refine LW.nil (hK2 _ _ ?_)
    refine CW.ret ?_
    obtain rfl := Option.some.inj F
    refine ⟨_, (ResOK.one rfl), ?_⟩
    refine ⟨(by first | rfl | simp), R0⟩
  ·
    intro K3 hK3 jK54
    refine CW.seq fun K4 hK4 => ?_
    refine CW.region ?_
    refine LW.pure rfl rfl (RV.assign rfl) ?_
    refine LW.nil (hK4 _ _ ?_)
    refine CW.block ?_
    refine CW.loop (fun meas ρ wl2 => ∃ (t3_1 : Int), cut_right_L1 a0 meas t3_1 = some res ∧ ρ = [(0, .slice A_a0 a0.length c_a0), (2, .bool false), (3, .int .i64 t3_1)] ∧ Hp w wl2 []) FU ⟨_, ?_, ((1 : Int)), F, rfl, H⟩ ?_
    · exact ⟨rfl, rfl, rfl, trivial⟩
    rintro mk1 _ wl2 ⟨t3_1, F, rfl, H⟩
    have R0 := H.ext
    replace F := cut_right_L1_s F
    obtain ⟨mk1, rfl, F⟩ := F
    generalize hrec1 : cut_right_L1 a0 mk1 = rec1 at F
    unfold cut_right_B1 at F
    refine CW.seq fun K5 hK5 => ?_
    refine CW.seq fun K6 hK6 => ?_
    refine CW.region ?_
    refine LW.pure rfl rfl (RV.move rfl) ?_
    refine LW.pure rfl rfl (RV.move rfl) ?_
    refine LW.pure rfl rfl (RV.len Ts25 rfl) ?_
    refine LW.pure rfl rfl (RV.lss rfl rfl) ?_
    refine LW.nil (hK6 _ _ ?_)
    by_cases hp1 : t3_1 < ((a0.length : Int))
    ·
      replace F := ite_y hp1 F
      have hq1 := dec_t hp1
      refine CW.condT rfl hq1 ?_
      refine CW.skip (hK5 _ _ ?_)
      refine CW.seq fun K7 hK7 => ?_
      refine CW.block ?_
      refine CW.seq fun K8 hK8 => ?_
      obtain ⟨x1, hbx1, hx1, F⟩ := ix_some F
      obtain ⟨hg1, F⟩ := gd_some F
      obtain ⟨x2, hbx2, hx2, F⟩ := ix_some F
      obtain ⟨hg2, F⟩ := gd_some F
      obtain ⟨r1, hr1, F⟩ := bnd_some F
      refine CW.draw [] (fun _ => True) (.cons 0 1 (.cons 1 1 (.cons 2 1 (.cons 3 1 (.cons 4 1 (.cons 5 1 (.cons 6 1 (.cons 7 1 (.cons 8 1 (.cons 9 1 (.cons 10 0 (.cons 11 1 .nil)))))))))))) mixed (by kernel_rfl) fun w1 E1 => ?_
      replace H := H.grow E1
      replace R0 := H.ext
      refine DW.fix rfl rfl rfl (fun _ EQ => RV.move rfl) ?_
      refine DW.fix rfl rfl rfl (fun _ EQ => RV.move rfl) ?_
      refine DW.fix rfl rfl rfl (fun _ EQ => RV.indexAddr Ts25 rfl rfl hbx1 (h_a0.addr_ hx1)) ?_
      refine DW.fix rfl rfl rfl (fun _ EQ => RV.load1 Tk3 rfl ((h_a0.at_ hx1).ext (R0.trans EQ)) rfl) ?_
      refine DW.fix rfl rfl rfl (fun _ EQ => RV.move rfl) ?_
      refine DW.fix rfl rfl rfl (fun _ EQ => RV.move rfl) ?_
      refine DW.fix rfl rfl rfl (fun _ EQ => RV.sub rfl rfl hg1) ?_
      refine DW.fix rfl rfl rfl (fun _ EQ => RV.indexAddr Ts25 rfl rfl hbx2 (h_a0.addr_ hx2)) ?_
      refine DW.fix rfl rfl rfl (fun _ EQ => RV.load1 Tk3 rfl ((h_a0.at_ hx2).ext (R0.trans EQ)) rfl) ?_
      refine DW.fix rfl rfl rfl (fun _ EQ => RV.sub rfl rfl hg2) ?_
      refine DW.sole rfl rfl rfl (OW.call Tc67 rfl (cut_from_ok (a0 := x1 - x2) (a1 := (-1 : Int)) (a2 := (1 : Int)) hr1) ?_)
      rintro _ w2 ⟨rfl, E2⟩
      refine ⟨_, rfl, fun _ => E2, ModX.ext E2, ?_⟩
      replace H := H.grow E2
      replace R0 := H.ext
      refine DW.fix rfl rfl rfl (fun _ EQ => RV.not rfl) ?_
      refine DW.nil (hK8 _ _ ?_)
      by_cases hp2 : r1 = true
      ·
        replace F := ite_y hp2 F
        have hq2 : r1 = true := hp2
        refine CW.condF rfl (not_f hq2) ?_
        refine CW.skip (hK7 _ _ ?_)
        obtain ⟨hg3, F⟩ := gd_some F
        refine CW.region ?_
        refine LW.pure rfl rfl (RV.move rfl) ?_
        refine LW.pure rfl rfl (RV.add rfl rfl hg3) ?_
        refine LW.pure rfl rfl (RV.assign rfl) ?_
        refine LW.nil ?_
        subst hrec1
        refine ⟨mk1, Nat.lt_succ_self _, _, ?_, (t3_1 + 1), F, rfl, H⟩
        exact ⟨rfl, rfl, rfl, trivial⟩
      ·
        replace F := ite_n hp2 F
        have hq2 : r1 = false := raw_f hp2
        refine CW.condT rfl (not_t hq2) ?_
        refine CW.seq fun K9 hK9 => ?_
        refine CW.region ?_
        refine LW.pure rfl rfl (RV.assign rfl) ?_
        refine LW.nil (hK9 _ _ ?_)
        refine CW.ret ?_
        obtain rfl := Option.some.inj F
        refine ⟨_, (ResOK.one rfl), ?_⟩
        refine ⟨(by first | rfl | simp), R0⟩
    ·
      replace F := ite_n hp1 F
      have hq1 := dec_f hp1
      refine CW.condF rfl hq1 ?_
      refine CW.exit (jK54 _ _ ⟨_, ?_, ⟨F, rfl, H⟩⟩)
      exact ⟨rfl, trivial⟩
set_option maxRecDepth 20000 in
set_option maxHeartbeats 1000000 in
theorem cut_CheckHollow_ok {a0 : Bog} {a1 : List Int} {A_a0_worth : Option Addr} {c_a0_worth : Nat} {A_a1 : Option Addr} {c_a1 : Nat} {w : World} {res : Int} (h_a0_worth : Sl2 w A_a0_worth c_a0_worth 1 encN a0.worth) (h_a1 : Sl w A_a1 c_a1 1 (a1.map encN)) (F : cut_CheckHollow a0 a1 = some res) : Calls Try.prog 22 #[.agg #[.slice A_a0_worth a0.worth.length c_a0_worth], .slice A_a1 a1.length c_a1] w (Rt w (.int .i64 res)) := by
  refine calls_of_cw (args := [.agg #[.slice A_a0_worth a0.worth.length c_a0_worth], .slice A_a1 a1.length c_a1]) Try.func22 rfl rfl rfl rfl ?_
  have H := Hp.start w
  have R0 := H.ext
  unfold cut_CheckHollow at F
  refine CW.seq fun K1 hK1 => ?_
  refine CW.region ?_
  refine LW.go rfl rfl (OW.box rfl fun b1 w1 N1 => ?_)
  replace H := H.new N1 N1.blk
  replace R0 := H.ext
  refine LW.pure rfl rfl (RV.assign rfl) ?_
  refine LW.nil (hK1 _ _ ?_)
  refine CW.seq fun K2 hK2 => ?_
  refine CW.seq fun K3 hK3 => ?_
  obtain ⟨r1, hr1, F⟩ := bnd_some F
  refine CW.region ?_
  refine LW.pure rfl rfl (RV.loadA [.slice A_a0_worth a0.worth.length c_a0_worth] Tk24 rfl (H.blk 0 rfl).cells rfl rfl) ?_
  refine LW.pure rfl rfl (RV.move rfl) ?_
  refine LW.go rfl rfl (OW.call Tc63 rfl (cut_isList_ok (a0 := a0) (a1 := a1) (h_a0_worth.ext R0) (h_a1.ext R0) hr1) ?_)
  rintro _ w2 ⟨rfl, E1⟩
  refine ⟨_, rfl, ?_⟩
  replace H := H.grow E1
  replace R0 := H.ext
  refine LW.pure rfl rfl (RV.assign rfl) ?_
  refine LW.nil (hK3 _ _ ?_)
  refine CW.seq fun K4 hK4 => ?_
  refine CW.region ?_
  refine LW.pure rfl rfl (RV.move rfl) ?_
  refine LW.pure rfl rfl (RV.nei rfl rfl) ?_
  refine LW.nil (hK4 _ _ ?_)
  by_cases hp1 : r1 = 0
  ·
    replace F := ite_y hp1 F
    have hq1 := dec_t hp1
    refine CW.condF rfl (not_f hq1) ?_
    refine CW.skip (hK2 _ _ ?_)
    refine CW.seq fun K5 hK5 => ?_
    refine CW.seq fun K6 hK6 => ?_
    obtain ⟨r2, hr2, F⟩ := bnd_some F
    refine CW.region ?_
    refine LW.pure rfl rfl (RV.move rfl) ?_
    refine LW.go rfl rfl (OW.call Tc64 rfl (cut_right_ok (a0 := a1) (h_a1.ext R0) hr2) ?_)
    rintro _ w3 ⟨rfl, E2⟩
    refine ⟨_, rfl, ?_⟩
    replace H := H.grow E2
    replace R0 := H.ext
    refine LW.pure rfl rfl (RV.not rfl) ?_
    refine LW.nil (hK6 _ _ ?_)
    by_cases hp2 : r2 = true
    ·
      replace F := ite_y hp2 F
      have hq2 : r2 = true := hp2
      refine CW.condF rfl (not_f hq2) ?_
      refine CW.skip (hK5 _ _ ?_)
      refine CW.seq fun K7 hK7 => ?_
      refine CW.region ?_
      refine LW.pure rfl rfl (RV.assign rfl) ?_
      refine LW.nil (hK7 _ _ ?_)
      refine CW.ret ?_
      obtain rfl := Option.some.inj F
      refine ⟨_, (ResOK.one rfl), ?_⟩
      refine ⟨(by first | rfl | simp), R0⟩
    ·
      replace F := ite_n hp2 F
      have hq2 : r2 = false := raw_f hp2
      refine CW.condT rfl (not_t hq2) ?_
      refine CW.seq fun K8 hK8 => ?_
      refine CW.region ?_
      refine LW.pure rfl rfl (RV.assign rfl) ?_
      refine LW.nil (hK8 _ _ ?_)
      refine CW.ret ?_
      obtain rfl := Option.some.inj F
      refine ⟨_, (ResOK.one rfl), ?_⟩
      refine ⟨(by first | rfl | simp), R0⟩
  ·
    replace F := ite_n hp1 F
    have hq1 := dec_f hp1
    refine CW.condT rfl (not_t hq1) ?_
    refine CW.seq fun K9 hK9 => ?_
    refine CW.region ?_
    refine LW.pure rfl rfl (RV.move rfl) ?_
    refine LW.pure rfl rfl (RV.assign rfl) ?_
    refine LW.nil (hK9 _ _ ?_)
    refine CW.ret ?_
    obtain rfl := Option.some.inj F
    refine ⟨_, (ResOK.one rfl), ?_⟩
    refine ⟨(by first | rfl | simp), R0⟩
set_option maxRecDepth 20000 in
set_option maxHeartbeats 1000000 in
theorem cut_open_ok {a0 : Bog} {a1 : List Int} {a2 : Int} {A_a0_worth : Option Addr} {c_a0_worth : Nat} {A_a1 : Option Addr} {c_a1 : Nat} {w : World} {res : Bool} (h_a0_worth : Sl2 w A_a0_worth c_a0_worth 1 encN a0.worth) (h_a1 : Sl w A_a1 c_a1 1 (a1.map encN)) (F : cut_open a0 a1 a2 = some res) : Calls Try.prog 61 #[.agg #[.slice A_a0_worth a0.worth.length c_a0_worth], .slice A_a1 a1.length c_a1, .int .i64 a2] w (Rt w (.bool res)) := by
  refine calls_of_cw (args := [.agg #[.slice A_a0_worth a0.worth.length c_a0_worth], .slice A_a1 a1.length c_a1, .int .i64 a2]) Try.func61 rfl rfl rfl rfl ?_
  have H := Hp.start w
  have R0 := H.ext
  unfold cut_open at F
  refine CW.seq fun K1 hK1 => ?_
  refine CW.region ?_
  refine LW.go rfl rfl (OW.box rfl fun b1 w1 N1 => ?_)
  replace H := H.new N1 N1.blk
  replace R0 := H.ext
  refine LW.pure rfl rfl (RV.assign rfl) ?_
  refine LW.nil (hK1 _ _ ?_)
  refine CW.seq fun K2 hK2 => ?_
  obtain ⟨r1, hr1, F⟩ := bnd_some F
  refine CW.region ?_
  refine LW.pure rfl rfl (RV.move rfl) ?_
  refine LW.go rfl rfl (OW.call Tc87 rfl (slices_Clone_int_ok (a0 := a1) (h_a1.ext R0) hr1) ?_)
  rintro _ w2 ⟨A5_0, c5_0, rfl, E1⟩
  refine ⟨_, rfl, ?_⟩
  replace H : Hp w w2 [.own A5_0 c5_0 3 1 (List.map encN r1), .blk b1 24 [.slice A_a0_worth a0.worth.length c_a0_worth]] := H.append E1
  replace R0 := H.ext
  refine LW.pure rfl rfl (RV.assign rfl) ?_
  refine LW.nil (hK2 _ _ ?_)
  refine CW.seq fun K3 hK3 => ?_
  obtain ⟨x1, hbx1, hx1, F⟩ := ix_some F
  obtain ⟨hg1, F⟩ := gd_some F
  obtain ⟨x2, hbx2, hx2, F⟩ := ix_some F
  refine CW.region ?_
  refine LW.pure rfl rfl (RV.move rfl) ?_
  refine LW.pure rfl rfl (RV.move rfl) ?_
  refine LW.pure rfl rfl (RV.indexAddr Ts25 rfl rfl hbx1 ((H.own 0 rfl).sl.addr_ hx1)) ?_
  refine LW.pure rfl rfl (RV.load1 Tk3 rfl ((H.own 0 rfl).sl.at_ hx1) rfl) ?_
  refine LW.pure rfl rfl (RV.add rfl rfl hg1) ?_
  refine LW.pure rfl rfl (RV.indexAddr Ts25 rfl rfl hbx2 ((H.own 0 rfl).sl.addr_ hx2)) ?_
  refine LW.go rfl rfl (OW.storeO (enc := encN) (vs := [.int .i64 (x1 + 1)]) 0 (x1 + 1) Tk3 rfl rfl (H.own 0 rfl) (fun _ => rfl) rfl hx2 rfl rfl (by decide) rfl rfl fun w3 M1 O1 => ?_)
  replace H : Hp w w3 [.own A5_0 c5_0 3 1 (List.map encN ((r1.set (Int.toNat a2) (x1 + 1)))), .blk b1 24 [.slice A_a0_worth a0.worth.length c_a0_worth]] := H.mod 0 rfl M1 O1 (.inl rfl)
  replace R0 := H.ext
  refine LW.nil (hK3 _ _ ?_)
  refine CW.seq fun K4 hK4 => ?_
  obtain ⟨x3, hbx3, hx3, F⟩ := ix_some F
  obtain ⟨r2, hr2, F⟩ := bnd_some F
  by_cases hp1 : x3 ≤ r2
  ·
    replace F := ite_y hp1 F
    have hq1 := dec_t hp1
    obtain ⟨r3, hr3, F⟩ := bnd_some F
    refine CW.draw [] (fun _ => True) (.cons 0 1 (.cons 1 1 (.cons 2 1 (.cons 3 1 (.cons 4 1 (.cons 5 0 (.cons 6 1 (.cons 7 1 (.cons 8 1 (.cons 9 0 (.cons 10 1 (.cons 11 1 .nil)))))))))))) mixed (by kernel_rfl) fun w4 E2 => ?_
    replace H := H.grow E2
    replace R0 := H.ext
    refine DW.fix rfl rfl rfl (fun _ EQ => RV.move rfl) ?_
    refine DW.fix rfl rfl rfl (fun _ EQ => RV.move rfl) ?_
    refine DW.fix rfl rfl rfl (fun _ EQ => RV.indexAddr Ts25 rfl rfl (by first | exact hbx3 | (simp at hbx3 ⊢; omega)) ((H.own 0 rfl).sl.addr_ hx3)) ?_
    refine DW.fix rfl rfl rfl (fun _ EQ => RV.load1 Tk3 rfl (((H.grow EQ).own 0 rfl).sl.at_ hx3) rfl) ?_
    refine DW.fix rfl rfl rfl (fun _ EQ => RV.loadA [.slice A_a0_worth a0.worth.length c_a0_worth] Tk24 rfl ((H.grow EQ).blk 1 rfl).cells rfl rfl) ?_
    refine DW.sole rfl rfl rfl (OW.call Tc68 rfl (cut_depth_ok (a0 := a0) (h_a0_worth.ext R0) hr2) ?_)
    rintro _ w5 ⟨rfl, E3⟩
    refine ⟨_, rfl, fun _ => E3, ModX.ext E3, ?_⟩
    replace H := H.grow E3
    replace R0 := H.ext
    refine DW.fix rfl rfl rfl (fun _ EQ => RV.leq rfl rfl) ?_
    refine DW.fix rfl rfl rfl (fun _ EQ => RV.move rfl) ?_
    refine DW.fixYB rfl rfl rfl rfl rfl hq1 (fun _ EQ => RV.move rfl) ?_
    refine DW.soleYB rfl rfl rfl rfl rfl hq1 (OW.call Tc64 (evs_cast rfl (by first | rfl | (simp; done) | (simp; omega))) (cut_right_ok (a0 := (r1.set (Int.toNat a2) (x1 + 1))) (H.own 0 rfl).sl hr3) ?_)
    rintro _ w6 ⟨rfl, E4⟩
    refine ⟨_, rfl, fun _ => E4, ModX.ext E4, ?_⟩
    replace H := H.grow E4
    replace R0 := H.ext
    refine DW.fix rfl rfl rfl (fun _ EQ => RV.pickTB rfl hq1 rfl) ?_
    refine DW.fix rfl rfl rfl (fun _ EQ => RV.assign rfl) ?_
    refine DW.nil (hK4 _ _ ?_)
    refine CW.ret ?_
    obtain rfl := Option.some.inj F
    refine ⟨_, (ResOK.one rfl), ?_⟩
    refine ⟨(by first | rfl | simp), R0⟩
  ·
    replace F := ite_n hp1 F
    have hq1 := dec_f hp1
    refine CW.draw [] (fun _ => True) (.cons 0 1 (.cons 1 1 (.cons 2 1 (.cons 3 1 (.cons 4 1 (.cons 5 0 (.cons 6 1 (.cons 7 1 (.cons 8 1 (.cons 9 0 (.cons 10 1 (.cons 11 1 .nil)))))))))))) mixed (by kernel_rfl) fun w7 E5 => ?_
    replace H := H.grow E5
    replace R0 := H.ext
    refine DW.fix rfl rfl rfl (fun _ EQ => RV.move rfl) ?_
    refine DW.fix rfl rfl rfl (fun _ EQ => RV.move rfl) ?_
    refine DW.fix rfl rfl rfl (fun _ EQ => RV.indexAddr Ts25 rfl rfl (by first | exact hbx3 | (simp at hbx3 ⊢; omega)) ((H.own 0 rfl).sl.addr_ hx3)) ?_
    refine DW.fix rfl rfl rfl (fun _ EQ => RV.load1 Tk3 rfl (((H.grow EQ).own 0 rfl).sl.at_ hx3) rfl) ?_
    refine DW.fix rfl rfl rfl (fun _ EQ => RV.loadA [.slice A_a0_worth a0.worth.length c_a0_worth] Tk24 rfl ((H.grow EQ).blk 1 rfl).cells rfl rfl) ?_
    refine DW.sole rfl rfl rfl (OW.call Tc68 rfl (cut_depth_ok (a0 := a0) (h_a0_worth.ext R0) hr2) ?_)
    rintro _ w8 ⟨rfl, E6⟩
    refine ⟨_, rfl, fun _ => E6, ModX.ext E6, ?_⟩
    replace H := H.grow E6
    replace R0 := H.ext
    refine DW.fix rfl rfl rfl (fun _ EQ => RV.leq rfl rfl) ?_
    refine DW.fix rfl rfl rfl (fun _ EQ => RV.move rfl) ?_
    refine DW.fixNB rfl rfl rfl rfl rfl (ne_beq (v := false) hq1 rfl) ?_
    refine DW.soleNB rfl rfl rfl rfl rfl (ne_beq (v := false) hq1 rfl) ?_
    refine DW.fix rfl rfl rfl (fun _ EQ => RV.pickFB rfl hq1 rfl) ?_
    refine DW.fix rfl rfl rfl (fun _ EQ => RV.assign rfl) ?_
    refine DW.nil (hK4 _ _ ?_)
    refine CW.ret ?_
    obtain rfl := Option.some.inj F
    refine ⟨_, (ResOK.one rfl), ?_⟩
    refine ⟨(by first | rfl | simp), R0⟩
end Go.D4

set_option linter.unusedVariables false
set_option linter.unusedSimpArgs false
namespace Go.D4
open Go.Tb Go.Proofs Go.RowKit
theorem Tc17 : callable Try.prog 17 = true := by kernel_rfl
set_option maxRecDepth 20000 in
set_option maxHeartbeats 1000000 in
theorem cut_Worth_ok {a0 : Bog} {a1 : List Int} {A_a0_worth : Option Addr} {c_a0_worth : Nat} {A_a1 : Option Addr} {c_a1 : Nat} {w : World} {res : Int × Int} (h_a0_worth : Sl2 w A_a0_worth c_a0_worth 1 encN a0.worth) (h_a1 : Sl w A_a1 c_a1 1 (a1.map encN)) (F : cut_Worth a0 a1 = some res) : Calls Try.prog 23 #[.agg #[.slice A_a0_worth a0.worth.length c_a0_worth], .slice A_a1 a1.length c_a1] w (Rt w (.tuple #[.int .i64 res.1, .int .i64 res.2])) := by
  refine calls_of_cw (args := [.agg #[.slice A_a0_worth a0.worth.length c_a0_worth], .slice A_a1 a1.length c_a1]) Try.func23 rfl rfl rfl rfl ?_
  have H := Hp.start w
  have R0 := H.ext
  unfold cut_Worth at F
  refine CW.seq fun K1 hK1 => ?_
  refine CW.region ?_
  refine LW.go rfl rfl (OW.box rfl fun b1 w1 N1 => ?_)
  replace H := H.new N1 N1.blk
  replace R0 := H.ext
  refine LW.pure rfl rfl (RV.assign rfl) ?_
  refine LW.pure rfl rfl (RV.assign rfl) ?_
  refine LW.nil (hK1 _ _ ?_)
  refine CW.seq fun K2 hK2 => ?_
  refine CW.seq fun K3 hK3 => ?_
  obtain ⟨r1, hr1, F⟩ := bnd_some F
  refine CW.region ?_
  refine LW.pure rfl rfl (RV.loadA [.slice A_a0_worth a0.worth.length c_a0_worth] Tk24 rfl (H.blk 0 rfl).cells rfl rfl) ?_
  refine LW.pure rfl rfl (RV.move rfl) ?_
  refine LW.go rfl rfl (OW.call Tc22 rfl (cut_CheckHollow_ok (a0 := a0) (a1 := a1) (h_a0_worth.ext R0) (h_a1.ext R0) hr1) ?_)
  rintro _ w2 ⟨rfl, E1⟩
  refine ⟨_, rfl, ?_⟩
  replace H := H.grow E1
  replace R0 := H.ext
  refine LW.pure rfl rfl (RV.assign rfl) ?_
  refine LW.nil (hK3 _ _ ?_)
  refine CW.seq fun K4 hK4 => ?_
  refine CW.region ?_
  refine LW.pure rfl rfl (RV.move rfl) ?_
  refine LW.pure rfl rfl (RV.nei rfl rfl) ?_
  refine LW.nil (hK4 _ _ ?_)
  by_cases hp1 : r1 = 0
  ·
    replace F := ite_y hp1 F
    have hq1 := dec_t hp1
    refine CW.condF rfl (not_f hq1) ?_
    refine CW.skip (hK2 _ _ ?_)
    refine CW.seq fun K5 hK5 => ?_
    obtain ⟨r2, hr2, F⟩ := bnd_some F
    refine CW.region ?_
    refine LW.pure rfl rfl (RV.loadA [.slice A_a0_worth a0.worth.length c_a0_worth] Tk24 rfl (H.blk 0 rfl).cells rfl rfl) ?_
    refine LW.pure rfl rfl (RV.move rfl) ?_
    refine LW.go rfl rfl (OW.call Tc65 rfl (cut_worth_ok (a0 := a0) (a1 := a1) (h_a0_worth.ext R0) (h_a1.ext R0) hr2) ?_)
    rintro _ w3 ⟨rfl, E2⟩
    refine ⟨_, rfl, ?_⟩
    replace H := H.grow E2
    replace R0 := H.ext
    refine LW.pure rfl rfl (RV.assign rfl) ?_
    refine LW.pure rfl rfl (RV.assign rfl) ?_
    refine LW.nil (hK5 _ _ ?_)
    refine CW.ret ?_
    obtain rfl := Option.some.inj F
    refine ⟨_, (ResOK.two rfl rfl), ?_⟩
    refine ⟨(by first | rfl | simp), R0⟩
  ·
    replace F := ite_n hp1 F
    have hq1 := dec_f hp1
    refine CW.condT rfl (not_t hq1) ?_
    refine CW.seq fun K6 hK6 => ?_
    refine CW.region ?_
    refine LW.pure rfl rfl (RV.move rfl) ?_
    refine LW.pure rfl rfl (RV.assign rfl) ?_
    refine LW.pure rfl rfl (RV.assign rfl) ?_
    refine LW.nil (hK6 _ _ ?_)
    refine CW.ret ?_
    obtain rfl := Option.some.inj F
    refine ⟨_, (ResOK.two rfl rfl), ?_⟩
    refine ⟨(by first | rfl | simp), R0⟩
end Go.D4

set_option linter.unusedVariables false
set_option linter.unusedSimpArgs false
namespace Go.D4
open Go.Tb Go.Proofs Go.RowKit
theorem Tc23 : callable Try.prog 23 = true := by kernel_rfl
theorem Tc83 : callable Try.prog 83 = true := by kernel_rfl
set_option maxRecDepth 20000 in
set_option maxHeartbeats 1000000 in
theorem cut_two_ok {a0 : Bog} {a1 : List Int} {a2 : List Int} {A_a0_worth : Option Addr} {c_a0_worth : Nat} {A_a1 : Option Addr} {c_a1 : Nat} {A_a2 : Option Addr} {c_a2 : Nat} {w : World} {res : Int} (h_a0_worth : Sl2 w A_a0_worth c_a0_worth 1 encN a0.worth) (h_a1 : Sl w A_a1 c_a1 1 (a1.map encN)) (h_a2 : Sl w A_a2 c_a2 1 (a2.map encN)) (F : cut_two a0 a1 a2 = some res) : Calls Try.prog 83 #[.agg #[.slice A_a0_worth a0.worth.length c_a0_worth], .slice A_a1 a1.length c_a1, .slice A_a2 a2.length c_a2] w (Rt w (.int .i64 res)) := by
  refine calls_of_cw (args := [.agg #[.slice A_a0_worth a0.worth.length c_a0_worth], .slice A_a1 a1.length c_a1, .slice A_a2 a2.length c_a2]) Try.func83 rfl rfl rfl rfl ?_
  have H := Hp.start w
  have R0 := H.ext
  unfold cut_two at F
  refine CW.seq fun K1 hK1 => ?_
  refine CW.region ?_
  refine LW.go rfl rfl (OW.box rfl fun b1 w1 N1 => ?_)
  replace H := H.new N1 N1.blk
  replace R0 := H.ext
  refine LW.pure rfl rfl (RV.assign rfl) ?_
  refine LW.nil (hK1 _ _ ?_)
  refine CW.seq fun K2 hK2 => ?_
  refine CW.seq fun K3 hK3 => ?_
  obtain ⟨r1, hr1, F⟩ := bnd_some F
  refine CW.region ?_
  refine LW.pure rfl rfl (RV.loadA [.slice A_a0_worth a0.worth.length c_a0_worth] Tk24 rfl (H.blk 0 rfl).cells rfl rfl) ?_
  refine LW.pure rfl rfl (RV.move rfl) ?_
  refine LW.go rfl rfl (OW.call Tc22 rfl (cut_CheckHollow_ok (a0 := a0) (a1 := a1) (h_a0_worth.ext R0) (h_a1.ext R0) hr1) ?_)
  rintro _ w2 ⟨rfl, E1⟩
  refine ⟨_, rfl, ?_⟩
  replace H := H.grow E1
  replace R0 := H.ext
  refine LW.pure rfl rfl (RV.assign rfl) ?_
  refine LW.nil (hK3 _ _ ?_)
  refine CW.seq fun K4 hK4 => ?_
  refine CW.region ?_
  refine LW.pure rfl rfl (RV.move rfl) ?_
  refine LW.pure rfl rfl (RV.nei rfl rfl) ?_
  refine LW.nil (hK4 _ _ ?_)
  by_cases hp1 : r1 = 0
  ·
    replace F := ite_y hp1 F
    have hq1 := dec_t hp1
    refine CW.condF rfl (not_f hq1) ?_
    refine CW.skip (hK2 _ _ ?_)
    refine CW.seq fun K5 hK5 => ?_
    obtain ⟨r2, hr2, F⟩ := bnd_some F
    refine CW.region ?_
    refine LW.pure rfl rfl (RV.loadA [.slice A_a0_worth a0.worth.length c_a0_worth] Tk24 rfl (H.blk 0 rfl).cells rfl rfl) ?_
    refine LW.pure rfl rfl (RV.move rfl) ?_
    refine LW.go rfl rfl (OW.call Tc22 rfl (cut_CheckHollow_ok (a0 := a0) (a1 := a2) (h_a0_worth.ext R0) (h_a2.ext R0) hr2) ?_)
    rintro _ w3 ⟨rfl, E2⟩
    refine ⟨_, rfl, ?_⟩
    replace H := H.grow E2
    replace R0 := H.ext
    refine LW.pure rfl rfl (RV.assign rfl) ?_
    refine LW.nil (hK5 _ _ ?_)
    refine CW.ret ?_
    obtain rfl := Option.some.inj F
    refine ⟨_, (ResOK.one rfl), ?_⟩
    refine ⟨(by first | rfl | simp), R0⟩
  ·
    replace F := ite_n hp1 F
    have hq1 := dec_f hp1
    refine CW.condT rfl (not_t hq1) ?_
    refine CW.seq fun K6 hK6 => ?_
    refine CW.region ?_
    refine LW.pure rfl rfl (RV.move rfl) ?_
    refine LW.pure rfl rfl (RV.assign rfl) ?_
    refine LW.nil (hK6 _ _ ?_)
    refine CW.ret ?_
    obtain rfl := Option.some.inj F
    refine ⟨_, (ResOK.one rfl), ?_⟩
    refine ⟨(by first | rfl | simp), R0⟩
set_option maxRecDepth 20000 in
set_option maxHeartbeats 1000000 in
theorem cut_Both_ok {a0 : Bog} {a1 : List Int} {a2 : List Int} {A_a0_worth : Option Addr} {c_a0_worth : Nat} {A_a1 : Option Addr} {c_a1 : Nat} {A_a2 : Option Addr} {c_a2 : Nat} {w : World} {res : (List Int) × Int} (h_a0_worth : Sl2 w A_a0_worth c_a0_worth 1 encN a0.worth) (h_a1 : Sl w A_a1 c_a1 1 (a1.map encN)) (h_a2 : Sl w A_a2 c_a2 1 (a2.map encN)) (F : cut_Both a0 a1 a2 = some res) : Calls Try.prog 39 #[.agg #[.slice A_a0_worth a0.worth.length c_a0_worth], .slice A_a1 a1.length c_a1, .slice A_a2 a2.length c_a2] w (fun e w' => ∃ (A0 : Option Addr) (c0 : Nat), e = .returned (.tuple #[.slice A0 res.1.length c0, .int .i64 res.2]) ∧ Hp w w' [.own A0 c0 3 1 (List.map encN res.1)]) := by
  refine calls_of_cw (args := [.agg #[.slice A_a0_worth a0.worth.length c_a0_worth], .slice A_a1 a1.length c_a1, .slice A_a2 a2.length c_a2]) Try.func39 rfl rfl rfl rfl ?_
  have H := Hp.start w
  have R0 := H.ext
  unfold cut_Both at F
  refine CW.seq fun K1 hK1 => ?_
  refine CW.region ?_
  refine LW.go rfl rfl (OW.box rfl fun b1 w1 N1 => ?_)
  replace H := H.new N1 N1.blk
  replace R0 := H.ext
  refine LW.pure rfl rfl (RV.assign rfl) ?_
  refine LW.pure rfl rfl (RV.assign rfl) ?_
  refine LW.nil (hK1 _ _ ?_)
  refine CW.seq fun K2 hK2 => ?_
  refine CW.seq fun K3 hK3 => ?_
  obtain ⟨r1, hr1, F⟩ := bnd_some F
  refine CW.region ?_
  refine LW.pure rfl rfl (RV.loadA [.slice A_a0_worth a0.worth.length c_a0_worth] Tk24 rfl (H.blk 0 rfl).cells rfl rfl) ?_
  refine LW.pure rfl rfl (RV.move rfl) ?_
  refine LW.pure rfl rfl (RV.move rfl) ?_
  refine LW.go rfl rfl (OW.call Tc83 rfl (cut_two_ok (a0 := a0) (a1 := a1) (a2 := a2) (h_a0_worth.ext R0) (h_a1.ext R0) (h_a2.ext R0) hr1) ?_)
  rintro _ w2 ⟨rfl, E1⟩
  refine ⟨_, rfl, ?_⟩
  replace H := H.grow E1
  replace R0 := H.ext
  refine LW.pure rfl rfl (RV.assign rfl) ?_
  refine LW.nil (hK3 _ _ ?_)
  refine CW.seq fun K4 hK4 => ?_
  refine CW.region ?_
  refine LW.pure rfl rfl (RV.move rfl) ?_
  refine LW.pure rfl rfl (RV.nei rfl rfl) ?_
  refine LW.nil (hK4 _ _ ?_)
  by_cases hp1 : r1 = 0
  ·
    replace F := ite_y hp1 F
    have hq1 := dec_t hp1
    refine CW.condF rfl (not_f hq1) ?_
    refine CW.skip (hK2 _ _ ?_)
    refine CW.seq fun K5 hK5 => ?_
    obtain ⟨r2, hr2, F⟩ := bnd_some F
    refine CW.region ?_
    refine LW.pure rfl rfl (RV.move rfl) ?_
    refine LW.pure rfl rfl (RV.move rfl) ?_
    refine LW.go rfl rfl (OW.call Tc84 rfl (cut_joined_ok (a0 := a1) (a1 := a2) (a2 := cut_smaller) (h_a1.ext R0) (h_a2.ext R0) (fun x0 x1 r hF w3 hE => CallsV.of Tc74 (cut_smaller_ok (a0 := x0) (a1 := x1) hF)) hr2) ?_)
    rintro _ w4 ⟨A6_0, c6_0, rfl, E2⟩
    refine ⟨_, rfl, ?_⟩
    replace H : Hp w w4 [.own A6_0 c6_0 3 1 (List.map encN r2), .blk b1 24 [.slice A_a0_worth a0.worth.length c_a0_worth]] := H.append E2
    replace R0 := H.ext
    refine LW.pure rfl rfl (RV.assign rfl) ?_
    refine LW.pure rfl rfl (RV.assign rfl) ?_
    refine LW.nil (hK5 _ _ ?_)
    refine CW.ret ?_
    obtain rfl := Option.some.inj F
    refine ⟨_, (ResOK.two rfl rfl), ?_⟩
    replace H := H.pick (L' := [.own A6_0 c6_0 3 1 (List.map encN r2)]) [0] (by decide) rfl
    replace R0 := H.ext
    exact ⟨A6_0, c6_0, (by first | rfl | (simp; done) | (simp; omega)), H⟩
  ·
    replace F := ite_n hp1 F
    have hq1 := dec_f hp1
    refine CW.condT rfl (not_t hq1) ?_
    refine CW.seq fun K6 hK6 => ?_
    refine CW.region ?_
    refine LW.pure rfl rfl (RV.move rfl) ?_
    refine LW.pure rfl rfl (RV.assign rfl) ?_
    refine LW.pure rfl rfl (RV.assign rfl) ?_
    refine LW.nil (hK6 _ _ ?_)
    refine CW.ret ?_
    obtain rfl := Option.some.inj F
    refine ⟨_, (ResOK.two rfl rfl), ?_⟩
    replace H := H.nilOwn 3 1
    replace R0 := H.ext
    replace H := H.pick (L' := [.own none 0 3 1 (List.map encN (([] : List Int)))]) [0] (by decide) rfl
    replace R0 := H.ext
    exact ⟨none, 0, (by first | rfl | (simp; done) | (simp; omega)), H⟩
end Go.D4

set_option linter.unusedVariables false
set_option linter.unusedSimpArgs false
namespace Go.D4
open Go.Tb Go.Proofs Go.RowKit
theorem Tc39 : callable Try.prog 39 = true := by kernel_rfl
theorem Tc41 : callable Try.prog 41 = true := by kernel_rfl
theorem Tc77 : callable Try.prog 77 = true := by kernel_rfl
set_option maxRecDepth 20000 in
set_option maxHeartbeats 1000000 in
theorem cut_greater_ok {a0 : Int} {a1 : Int} {w : World} {res : Int} (F : cut_greater a0 a1 = some res) : Calls Try.prog 77 #[.int .i64 a0, .int .i64 a1] w (Rt w (.int .i64 res)) := by
  refine calls_of_cw (args := [.int .i64 a0, .int .i64 a1]) Try.func77 rfl rfl rfl rfl ?_
  have H := Hp.start w
  have R0 := H.ext
  unfold cut_greater at F
  refine CW.seq fun K1 hK1 => ?_
  refine CW.region ?_
  refine LW.pure rfl rfl (RV.assign rfl) ?_
  refine LW.nil (hK1 _ _ ?_)
  refine CW.seq fun K2 hK2 => ?_
  refine CW.region ?_
  refine LW.pure rfl rfl (RV.move rfl) ?_
  refine LW.pure rfl rfl (RV.move rfl) ?_
  refine LW.pure rfl rfl (RV.max2 rfl rfl) ?_
  refine LW.pure rfl rfl (RV.assign rfl) ?_
  refine LW.nil (hK2 _ _ ?_)
  refine CW.ret ?_
  obtain rfl := Option.some.inj F
  refine ⟨_, (ResOK.one rfl), ?_⟩
  refine ⟨(by first | rfl | simp), R0⟩
set_option maxRecDepth 20000 in
set_option maxHeartbeats 1000000 in
theorem cut_Either_ok {a0 : Bog} {a1 : List Int} {a2 : List Int} {A_a0_worth : Option Addr} {c_a0_worth : Nat} {A_a1 : Option Addr} {c_a1 : Nat} {A_a2 : Option Addr} {c_a2 : Nat} {w : World} {res : (List Int) × Int} (h_a0_worth : Sl2 w A_a0_worth c_a0_worth 1 encN a0.worth) (h_a1 : Sl w A_a1 c_a1 1 (a1.map encN)) (h_a2 : Sl w A_a2 c_a2 1 (a2.map encN)) (F : cut_Either a0 a1 a2 = some res) : Calls Try.prog 41 #[.agg #[.slice A_a0_worth a0.worth.length c_a0_worth], .slice A_a1 a1.length c_a1, .slice A_a2 a2.length c_a2] w (fun e w' => ∃ (A0 : Option Addr) (c0 : Nat), e = .returned (.tuple #[.slice A0 res.1.length c0, .int .i64 res.2]) ∧ Hp w w' [.own A0 c0 3 1 (List.map encN res.1)]) := by
  refine calls_of_cw (args := [.agg #[.slice A_a0_worth a0.worth.length c_a0_worth], .slice A_a1 a1.length c_a1, .slice A_a2 a2.length c_a2]) Try.func41 rfl rfl rfl rfl ?_
  have H := Hp.start w
  have R0 := H.ext
  unfold cut_Either at F
  refine CW.seq fun K1 hK1 => ?_
  refine CW.region ?_
  refine LW.go rfl rfl (OW.box rfl fun b1 w1 N1 => ?_)
  replace H := H.new N1 N1.blk
  replace R0 := H.ext
  refine LW.pure rfl rfl (RV.assign rfl) ?_
  refine LW.pure rfl rfl (RV.assign rfl) ?_
  refine LW.nil (hK1 _ _ ?_)
  refine CW.seq fun K2 hK2 => ?_
  refine CW.seq fun K3 hK3 => ?_
  obtain ⟨r1, hr1, F⟩ := bnd_some F
  refine CW.region ?_
  refine LW.pure rfl rfl (RV.loadA [.slice A_a0_worth a0.worth.length c_a0_worth] Tk24 rfl (H.blk 0 rfl).cells rfl rfl) ?_
  refine LW.pure rfl rfl (RV.move rfl) ?_
  refine LW.pure rfl rfl (RV.move rfl) ?_
  refine LW.go rfl rfl (OW.call Tc83 rfl (cut_two_ok (a0 := a0) (a1 := a1) (a2 := a2) (h_a0_worth.ext R0) (h_a1.ext R0) (h_a2.ext R0) hr1) ?_)
  rintro _ w2 ⟨rfl, E1⟩
  refine ⟨_, rfl, ?_⟩
  replace H := H.grow E1
  replace R0 := H.ext
  refine LW.pure rfl rfl (RV.assign rfl) ?_
  refine LW.nil (hK3 _ _ ?_)
  refine CW.seq fun K4 hK4 => ?_
  refine CW.region ?_
  refine LW.pure rfl rfl (RV.move rfl) ?_
  refine LW.pure rfl rfl (RV.nei rfl rfl) ?_
  refine LW.nil (hK4 _ _ ?_)
  by_cases hp1 : r1 = 0
  ·
    replace F := ite_y hp1 F
    have hq1 := dec_t hp1
    refine CW.condF rfl (not_f hq1) ?_
    refine CW.skip (hK2 _ _ ?_)
    refine CW.seq fun K5 hK5 => ?_
    obtain ⟨r2, hr2, F⟩ := bnd_some F
    refine CW.region ?_
    refine LW.pure rfl rfl (RV.move rfl) ?_
    refine LW.pure rfl rfl (RV.move rfl) ?_
    refine LW.go rfl rfl (OW.call Tc84 rfl (cut_joined_ok (a0 := a1) (a1 := a2) (a2 := cut_greater) (h_a1.ext R0) (h_a2.ext R0) (fun x0 x1 r hF w3 hE => CallsV.of Tc77 (cut_greater_ok (a0 := x0) (a1 := x1) hF)) hr2) ?_)
    rintro _ w4 ⟨A6_0, c6_0, rfl, E2⟩
    refine ⟨_, rfl, ?_⟩
    replace H : Hp w w4 [.own A6_0 c6_0 3 1 (List.map encN r2), .blk b1 24 [.slice A_a0_worth a0.worth.length c_a0_worth]] := H.append E2
    replace R0 := H.ext
    refine LW.pure rfl rfl (RV.assign rfl) ?_
    refine LW.pure rfl rfl (RV.assign rfl) ?_
    refine LW.nil (hK5 _ _ ?_)
    refine CW.ret ?_
    obtain rfl := Option.some.inj F
    refine ⟨_, (ResOK.two rfl rfl), ?_⟩
    replace H := H.pick (L' := [.own A6_0 c6_0 3 1 (List.map encN r2)]) [0] (by decide) rfl
    replace R0 := H.ext
    exact ⟨A6_0, c6_0, (by first | rfl | (simp; done) | (simp; omega)), H⟩
  ·
    replace F := ite_n hp1 F
    have hq1 := dec_f hp1
    refine CW.condT rfl (not_t hq1) ?_
    refine CW.seq fun K6 hK6 => ?_
    refine CW.region ?_
    refine LW.pure rfl rfl (RV.move rfl) ?_
    refine LW.pure rfl rfl (RV.assign rfl) ?_
    refine LW.pure rfl rfl (RV.assign rfl) ?_
    refine LW.nil (hK6 _ _ ?_)
    refine CW.ret ?_
    obtain rfl := Option.some.inj F
    refine ⟨_, (ResOK.two rfl rfl), ?_⟩
    replace H := H.nilOwn 3 1
    replace R0 := H.ext
    replace H := H.pick (L' := [.own none 0 3 1 (List.map encN (([] : List Int)))]) [0] (by decide) rfl
    replace R0 := H.ext
    exact ⟨none, 0, (by first | rfl | (simp; done) | (simp; omega)), H⟩
end Go.D4

set_option linter.unusedVariables false
set_option linter.unusedSimpArgs false
namespace Go.D4
open Go.Tb Go.Proofs Go.RowKit
theorem Tz24 : tyZ Try.prog 24 = some (.agg #[.slice none 0 0]) := by kernel_rfl
set_option maxRecDepth 20000 in
set_option maxHeartbeats 1000000 in
theorem cut_Toll_ok {a0 : Bog} {a1 : Int} {A_a0_worth : Option Addr} {c_a0_worth : Nat} {w : World} {res : Bog × Int} (h_a0_worth : Sl2 w A_a0_worth c_a0_worth 1 encN a0.worth) (F : cut_Toll a0 a1 = some res) : Calls Try.prog 47 #[.agg #[.slice A_a0_worth a0.worth.length c_a0_worth], .int .i64 a1] w (fun e w' => ∃ (A0_worth : Option Addr) (c0_worth : Nat) (hs0_worth : List (Option Addr × Nat)), e = .returned (.tuple #[.agg #[.slice A0_worth res.1.worth.length c0_worth], .int .i64 res.2]) ∧ Hp w w' [.tab A0_worth c0_worth 25 hs0_worth 3 1 (encM encN res.1.worth)]) := by
  refine calls_of_cw (args := [.agg #[.slice A_a0_worth a0.worth.length c_a0_worth], .int .i64 a1]) Try.func47 rfl rfl rfl rfl ?_
  have H := Hp.start w
  have R0 := H.ext
  unfold cut_Toll at F
  refine CW.seq fun K1 hK1 => ?_
  refine CW.region ?_
  refine LW.go rfl rfl (OW.box rfl fun b1 w1 N1 => ?_)
  replace H := H.new N1 N1.blk
  replace R0 := H.ext
  refine LW.go rfl rfl (OW.alloc Tz24 fun b2 w2 N2 => ?_)
  replace H := H.new N2 N2.blk
  replace R0 := H.ext
  refine LW.pure rfl rfl (RV.assign rfl) ?_
  refine LW.nil (hK1 _ _ ?_)
  refine CW.seq fun K2 hK2 => ?_
  refine CW.seq fun K3 hK3 => ?_
  obtain ⟨r2, hr2, F⟩ := bnd_some F
  refine CW.region ?_
  refine LW.pure rfl rfl (RV.loadA [.slice A_a0_worth a0.worth.length c_a0_worth] Tk24 rfl (H.blk 1 rfl).cells rfl rfl) ?_
  refine LW.go rfl rfl (OW.call Tc25 rfl (cut_Validate_ok (a0 := a0) (h_a0_worth.ext R0) hr2) ?_)
  rintro _ w3 ⟨rfl, E1⟩
  refine ⟨_, rfl, ?_⟩
  replace H := H.grow E1
  replace R0 := H.ext
  refine LW.pure rfl rfl (RV.assign rfl) ?_
  refine LW.nil (hK3 _ _ ?_)
  refine CW.seq fun K4 hK4 => ?_
  refine CW.region ?_
  refine LW.pure rfl rfl (RV.move rfl) ?_
  refine LW.pure rfl rfl (RV.nei rfl rfl) ?_
  refine LW.nil (hK4 _ _ ?_)
  by_cases hp1 : r2 = 0
  ·
    replace F := ite_y hp1 F
    have hq1 := dec_t hp1
    refine CW.condF rfl (not_f hq1) ?_
    refine CW.skip (hK2 _ _ ?_)
    refine CW.seq fun K5 hK5 => ?_
    refine CW.seq fun K6 hK6 => ?_
    obtain ⟨r3, hr3, F⟩ := bnd_some F
    refine CW.region ?_
    refine LW.pure rfl rfl (RV.move rfl) ?_
    refine LW.go rfl rfl (OW.call Tc67 rfl (cut_from_ok (a0 := a1) (a1 := (-50 : Int)) (a2 := (50 : Int)) hr3) ?_)
    rintro _ w4 ⟨rfl, E2⟩
    refine ⟨_, rfl, ?_⟩
    replace H := H.grow E2
    replace R0 := H.ext
    refine LW.pure rfl rfl (RV.not rfl) ?_
    refine LW.nil (hK6 _ _ ?_)
    by_cases hp2 : r3 = true
    ·
      replace F := ite_y hp2 F
      have hq2 : r3 = true := hp2
      refine CW.condF rfl (not_f hq2) ?_
      refine CW.skip (hK5 _ _ ?_)
      refine CW.seq fun K7 hK7 => ?_
      refine CW.region ?_
      refine LW.go rfl rfl (OW.alloc Tz24 fun b3 w5 N3 => ?_)
      replace H := H.new N3 N3.blk
      replace R0 := H.ext
      refine LW.nil (hK7 _ _ ?_)
      refine CW.seqJ (fun ρ wl1 => (∃ (m1 : List (List Int)) (hsm1 : List (Option Addr × Nat)) (Am1 : Option Addr) (cm1 : Nat), cut_Toll_k1 m1 = some res ∧ ρ = [(4, .pointer (some (⟨b2, 0, none⟩))), (5, .int .i64 0), (7, .pointer (some (⟨b3, 0, none⟩)))] ∧ Hp w wl1 [.tab Am1 cm1 25 hsm1 3 1 (encM encN m1), .blk b2 24 [.slice none 0 0], .blk b3 24 [.slice Am1 m1.length cm1]])) ?_ ?_
      ·
        rintro _ wl1 ⟨m1, hsm1, Am1, cm1, F, rfl, H⟩
        have R0 := H.ext
        unfold cut_Toll_k1 at F
        refine CW.seq fun K8 hK8 => ?_
        refine CW.seq fun K9 hK9 => ?_
        obtain ⟨r1, hr1, F⟩ := bnd_some F
        refine CW.region ?_
        refine LW.pure rfl rfl (RV.loadA [.slice Am1 m1.length cm1] Tk24 rfl (H.blk 2 rfl).cells rfl rfl) ?_
        refine LW.go rfl rfl (OW.call Tc25 rfl (cut_Validate_ok (a0 := (⟨m1⟩ : Bog)) (H.tab 0 rfl).sl2 hr1) ?_)
        rintro _ w6 ⟨rfl, E3⟩
        refine ⟨_, rfl, ?_⟩
        replace H := H.grow E3
        replace R0 := H.ext
        refine LW.pure rfl rfl (RV.nei rfl rfl) ?_
        refine LW.nil (hK9 _ _ ?_)
        by_cases hp3 : r1 = 0
        ·
          replace F := ite_y hp3 F
          have hq3 := dec_t hp3
          refine CW.condF rfl (not_f hq3) ?_
          refine CW.skip (hK8 _ _ ?_)
          refine CW.seq fun K10 hK10 => ?_
          refine CW.region ?_
          refine LW.pure rfl rfl (RV.loadA [.slice Am1 m1.length cm1] Tk24 rfl (H.blk 2 rfl).cells rfl rfl) ?_
          refine LW.go rfl rfl (OW.store Tk24 rfl rfl (H.blk 1 rfl) (off := 0) (vs := [.slice Am1 m1.length cm1]) rfl rfl rfl rfl rfl fun w7 S1 => ?_)
          replace H : Hp w w7 [.tab Am1 cm1 25 hsm1 3 1 (encM encN m1), .blk b2 24 [.slice Am1 m1.length cm1], .blk b3 24 [.slice Am1 m1.length cm1]] := H.stored 1 rfl S1
          replace R0 := H.ext
          refine LW.pure rfl rfl (RV.assign rfl) ?_
          refine LW.nil (hK10 _ _ ?_)
          refine CW.ret ?_
          obtain rfl := Option.some.inj F
          refine ⟨_, (ResOK.two ⟨_, rfl, run_loadVar_agg Tk24 (H.blk 1 rfl).cells (us := [.slice Am1 m1.length cm1]) rfl rfl⟩ rfl), ?_⟩
          replace H := H.pick (L' := [.tab Am1 cm1 25 hsm1 3 1 (encM encN m1)]) [0] (by decide) rfl
          replace R0 := H.ext
          exact ⟨Am1, cm1, hsm1, (by first | rfl | (simp; done) | (simp; omega)), H⟩
        ·
          replace F := ite_n hp3 F
          have hq3 := dec_f hp3
          refine CW.condT rfl (not_t hq3) ?_
          refine CW.seq fun K11 hK11 => ?_
          refine CW.region ?_
          refine LW.pure rfl rfl (RV.build (vs := []) (cs := [.slice none 0 0]) rfl (fun _ => by kernel_rfl)) ?_
          refine LW.go rfl rfl (OW.store Tk24 rfl rfl (H.blk 1 rfl) (off := 0) (vs := [.slice none 0 0]) rfl rfl rfl rfl rfl fun w8 S2 => ?_)
          replace H : Hp w w8 [.tab Am1 cm1 25 hsm1 3 1 (encM encN m1), .blk b2 24 [.slice none 0 0], .blk b3 24 [.slice Am1 m1.length cm1]] := H.stored 1 rfl S2
          replace R0 := H.ext
          refine LW.pure rfl rfl (RV.assign rfl) ?_
          refine LW.nil (hK11 _ _ ?_)
          refine CW.ret ?_
          obtain rfl := Option.some.inj F
          refine ⟨_, (ResOK.two ⟨_, rfl, run_loadVar_agg Tk24 (H.blk 1 rfl).cells (us := [.slice none 0 0]) rfl rfl⟩ rfl), ?_⟩
          replace H := H.nilTab encN 25 3 1
          replace R0 := H.ext
          replace H := H.pick (L' := [.tab none 0 25 ([]) 3 1 (encM encN (([] : List (List Int))))]) [0] (by decide) rfl
          replace R0 := H.ext
          exact ⟨none, 0, ([]), (by first | rfl | (simp; done) | (simp; omega)), H⟩
      ·
        intro K12 hK12 jK578
        refine CW.seq fun K13 hK13 => ?_
        refine CW.region ?_
        refine LW.pure rfl rfl (RV.fieldAddr Tf24_0 rfl) ?_
        refine LW.pure rfl rfl (RV.load1 Tk22 rfl ((H.blk 2 rfl).cells.off 0) rfl) ?_
        refine LW.pure rfl rfl (RV.len Ts22 rfl) ?_
        refine LW.pure rfl rfl (RV.move rfl) ?_
        refine LW.nil (hK13 _ _ ?_)
        refine CW.block ?_
        replace H := H.nilTab encN 25 3 1
        replace R0 := H.ext
        replace H := H.pick (L' := [.tab none 0 25 ([]) 3 1 (encM encN (([] : List (List Int)))), .blk b2 24 [.slice none 0 0], .blk b3 24 [.slice none 0 0]]) [0, 2, 1] (by decide) rfl
        replace R0 := H.ext
        replace H := H.cast (L' := [.tab none 0 25 ([]) 3 1 (encM encN (([] : List (List Int)))), .blk b2 24 [.slice none 0 0], .blk b3 24 [.slice none ((([] : List (List Int))).length) 0]]) (by first | rfl | (simp only [List.length_set]; done) | simp)
        refine CW.loop (fun meas ρ wl2 => ∃ (t26_1 : Int) (m3 : List (List Int)) (hsm3 : List (Option Addr × Nat)) (Am3 : Option Addr) (cm3 : Nat), cut_Toll_L2 a0 a1 meas t26_1 m3 = some res ∧ ρ = [(1, .int .i64 a1), (4, .pointer (some (⟨b2, 0, none⟩))), (5, .int .i64 0), (7, .pointer (some (⟨b3, 0, none⟩))), (24, .slice A_a0_worth a0.worth.length c_a0_worth), (25, .int .i64 ((a0.worth.length : Int))), (26, .int .i64 t26_1)] ∧ Hp w wl2 [.tab Am3 cm3 25 hsm3 3 1 (encM encN m3), .blk b2 24 [.slice none 0 0], .blk b3 24 [.slice Am3 m3.length cm3]]) FU ⟨_, ?_, ((0 : Int)), (([] : List (List Int))), ([]), none, 0, F, rfl, H⟩ ?_
        · exact ⟨rfl, rfl, rfl, rfl, rfl, rfl, rfl, trivial⟩
        rintro mk1 _ wl2 ⟨t26_1, m3, hsm3, Am3, cm3, F, rfl, H⟩
        have R0 := H.ext
        replace F := cut_Toll_L2_s F
        obtain ⟨mk1, rfl, F⟩ := F
        generalize hrec1 : cut_Toll_L2 a0 a1 mk1 = rec1 at F
        unfold cut_Toll_B2 at F
        refine CW.seq fun K14 hK14 => ?_
        refine CW.region ?_
        refine LW.pure rfl rfl (RV.lss rfl rfl) ?_
        refine LW.nil (hK14 _ _ ?_)
        refine CW.seq fun K15 hK15 => ?_
        by_cases hp4 : t26_1 < ((a0.worth.length : Int))
        ·
          replace F := ite_y hp4 F
          have hq4 := dec_t hp4
          refine CW.condT rfl hq4 ?_
          refine CW.skip (hK15 _ _ ?_)
          refine CW.seqJ (fun ρ wl3 => (∃ (m2 : List (List Int)) (hsm2 : List (Option Addr × Nat)) (Am2 : Option Addr) (cm2 : Nat), cut_Toll_k2 t26_1 rec1 m2 = some res ∧ ρ = [(1, .int .i64 a1), (4, .pointer (some (⟨b2, 0, none⟩))), (5, .int .i64 0), (7, .pointer (some (⟨b3, 0, none⟩))), (24, .slice A_a0_worth a0.worth.length c_a0_worth), (25, .int .i64 ((a0.worth.length : Int))), (26, .int .i64 t26_1)] ∧ Hp w wl3 [.tab Am2 cm2 25 hsm2 3 1 (encM encN m2), .blk b2 24 [.slice none 0 0], .blk b3 24 [.slice Am2 m2.length cm2]])) ?_ ?_
          ·
            rintro _ wl3 ⟨m2, hsm2, Am2, cm2, F, rfl, H⟩
            have R0 := H.ext
            unfold cut_Toll_k2 at F
            obtain ⟨hg1, F⟩ := gd_some F
            refine CW.region ?_
            refine LW.pure rfl rfl (RV.add rfl rfl hg1) ?_
            refine LW.pure rfl rfl (RV.move rfl) ?_
            refine LW.nil ?_
            subst hrec1
            refine ⟨mk1, Nat.lt_succ_self _, _, ?_, (t26_1 + 1), m2, hsm2, Am2, cm2, F, rfl, H⟩
            exact ⟨rfl, rfl, rfl, rfl, rfl, rfl, rfl, trivial⟩
          ·
            intro K16 hK16 jK733
            refine CW.block ?_
            refine CW.seq fun K17 hK17 => ?_
            obtain ⟨x1, hbx1, hx1, F⟩ := ix_some F
            refine CW.region ?_
            obtain ⟨A1, c1, hC1, hS1⟩ := h_a0_worth.at_ hx1
            refine LW.pure rfl rfl (RV.indexAddr Ts22 rfl rfl hbx1 (h_a0_worth.addr hbx1)) ?_
            refine LW.pure rfl rfl (RV.load1 Tk25 rfl (hC1.ext R0) rfl) ?_
            refine LW.pure rfl rfl (RV.assign rfl) ?_
            refine LW.nil (hK17 _ _ ?_)
            refine CW.seq fun K18 hK18 => ?_
            refine CW.region ?_
            refine LW.pure rfl rfl (RV.assign rfl) ?_
            refine LW.nil (hK18 _ _ ?_)
            refine CW.seqJ (fun ρ wl4 => (∃ (l1 : List Int) (Al1 : Option Addr) (cl1 : Nat), cut_Toll_k3 t26_1 m3 rec1 l1 = some res ∧ ρ = [(1, .int .i64 a1), (4, .pointer (some (⟨b2, 0, none⟩))), (5, .int .i64 0), (7, .pointer (some (⟨b3, 0, none⟩))), (10, .slice Al1 l1.length cl1), (24, .slice A_a0_worth a0.worth.length c_a0_worth), (25, .int .i64 ((a0.worth.length : Int))), (26, .int .i64 t26_1)] ∧ Hp w wl4 [.own Al1 cl1 3 1 (List.map encN l1), .tab Am3 cm3 25 hsm3 3 1 (encM encN m3), .blk b2 24 [.slice none 0 0], .blk b3 24 [.slice Am3 m3.length cm3]])) ?_ ?_
            ·
              rintro _ wl4 ⟨l1, Al1, cl1, F, rfl, H⟩
              have R0 := H.ext
              unfold cut_Toll_k3 at F
              obtain ⟨hg2, F⟩ := gd_some F
              refine CW.region ?_
              refine LW.pure rfl rfl (RV.fieldAddr Tf24_0 rfl) ?_
              refine LW.pure rfl rfl (RV.load1 Tk22 rfl ((H.blk 3 rfl).cells.off 0) rfl) ?_
              refine LW.pure rfl rfl (RV.move rfl) ?_
              refine LW.go rfl rfl (OW.buildSlice (e := 25) (vs := [.slice Al1 l1.length cl1]) (cs := [.slice Al1 l1.length cl1]) rfl (fun _ => by kernel_rfl) fun b4 w9 N4 => ?_)
              replace H := H.made' (k := 1) (t := 25) (enc := encH) (l := [((Al1, cl1), List.map encN l1)]) N4 (by have q := N4.blk; simp only [List.flatMap_cons, List.flatMap_nil, encH, List.length_map, List.append_nil, List.cons_append, List.nil_append]; first | done | exact q) (fun _ => rfl) rfl (by first | decide | omega | (simp; done) | (simp; omega))
              replace R0 := H.ext
              refine LW.go rfl rfl (OW.appendT (enc := encN) (m := m3) (l := l1) Ts22 rfl rfl (H.tab 2 rfl) (H.own 0 rfl).sl rfl hg2 (by decide) fun A2 c2 w10 O1 M1 D1 => ?_)
              replace H : Hp w w10 [.own (some ⟨b4, 0, none⟩) (([((Al1, cl1), List.map encN l1)]).length) 25 1 (List.map encH ([((Al1, cl1), List.map encN l1)])), .tab A2 c2 25 ((hsm3 ++ [(Al1, cl1)])) 3 1 (encM encN ((m3 ++ [l1]))), .blk b2 24 [.slice none 0 0], .blk b3 24 [.slice Am3 m3.length cm3]] := H.tabPush 2 1 (by decide) rfl rfl M1 D1 O1
              replace R0 := H.ext
              refine LW.pure rfl rfl (RV.fieldAddr Tf24_0 rfl) ?_
              refine LW.go rfl rfl (OW.store Tk22 rfl rfl (H.blk 3 rfl) (off := 0) (vs := [.slice A2 (((m3 ++ [l1])).length) c2]) rfl rfl rfl rfl rfl fun w11 S3 => ?_)
              replace H : Hp w w11 [.own (some ⟨b4, 0, none⟩) (([((Al1, cl1), List.map encN l1)]).length) 25 1 (List.map encH ([((Al1, cl1), List.map encN l1)])), .tab A2 c2 25 ((hsm3 ++ [(Al1, cl1)])) 3 1 (encM encN ((m3 ++ [l1]))), .blk b2 24 [.slice none 0 0], .blk b3 24 [.slice A2 (((m3 ++ [l1])).length) c2]] := H.stored 3 rfl S3
              replace R0 := H.ext
              replace H := H.pick (L' := [.tab A2 c2 25 ((hsm3 ++ [(Al1, cl1)])) 3 1 (encM encN ((m3 ++ [l1]))), .blk b2 24 [.slice none 0 0], .blk b3 24 [.slice A2 (((m3 ++ [l1])).length) c2]]) [1, 2, 3] (by decide) rfl
              replace R0 := H.ext
              refine LW.nil (jK733 _ _ ⟨_, ?_, ⟨((m3 ++ [l1])), ((hsm3 ++ [(Al1, cl1)])), A2, c2, F, rfl, H⟩⟩)
              exact ⟨rfl, rfl, rfl, rfl, rfl, rfl, rfl, trivial⟩
            ·
              intro K19 hK19 jK749
              refine CW.seq fun K20 hK20 => ?_
              refine CW.region ?_
              refine LW.pure rfl rfl (RV.move rfl) ?_
              refine LW.pure rfl rfl (RV.len Ts25 rfl) ?_
              refine LW.pure rfl rfl (RV.move rfl) ?_
              refine LW.nil (hK20 _ _ ?_)
              refine CW.block ?_
              replace H := H.nilOwn 3 1
              replace R0 := H.ext
              refine CW.loop (fun meas ρ wl5 => ∃ (t32_1 : Int) (l2 : List Int) (Al2 : Option Addr) (cl2 : Nat), cut_Toll_L1 a1 t26_1 m3 rec1 x1 meas t32_1 l2 = some res ∧ ρ = [(1, .int .i64 a1), (4, .pointer (some (⟨b2, 0, none⟩))), (5, .int .i64 0), (7, .pointer (some (⟨b3, 0, none⟩))), (10, .slice Al2 l2.length cl2), (24, .slice A_a0_worth a0.worth.length c_a0_worth), (25, .int .i64 ((a0.worth.length : Int))), (26, .int .i64 t26_1), (30, .slice A1 x1.length c1), (31, .int .i64 ((x1.length : Int))), (32, .int .i64 t32_1)] ∧ Hp w wl5 [.own Al2 cl2 3 1 (List.map encN l2), .tab Am3 cm3 25 hsm3 3 1 (encM encN m3), .blk b2 24 [.slice none 0 0], .blk b3 24 [.slice Am3 m3.length cm3]]) FU ⟨_, ?_, ((0 : Int)), (([] : List Int)), none, 0, F, rfl, H⟩ ?_
              · exact ⟨rfl, rfl, rfl, rfl, (look_slice rfl (by first | rfl | (simp; done) | (simp; omega))), rfl, rfl, rfl, rfl, rfl, rfl, trivial⟩
              rintro mk2 _ wl5 ⟨t32_1, l2, Al2, cl2, F, rfl, H⟩
              have R0 := H.ext
              replace F := cut_Toll_L1_s F
              obtain ⟨mk2, rfl, F⟩ := F
              generalize hrec2 : cut_Toll_L1 a1 t26_1 m3 rec1 x1 mk2 = rec2 at F
              unfold cut_Toll_B1 at F
              refine CW.seq fun K21 hK21 => ?_
              refine CW.region ?_
              refine LW.pure rfl rfl (RV.lss rfl rfl) ?_
              refine LW.nil (hK21 _ _ ?_)
              refine CW.seq fun K22 hK22 => ?_
              by_cases hp5 : t32_1 < ((x1.length : Int))
              ·
                replace F := ite_y hp5 F
                have hq5 := dec_t hp5
                refine CW.condT rfl hq5 ?_
                refine CW.skip (hK22 _ _ ?_)
                refine CW.seq fun K23 hK23 => ?_
                refine CW.block ?_
                refine CW.seq fun K24 hK24 => ?_
                obtain ⟨x2, hbx2, hx2, F⟩ := ix_some F
                refine CW.region ?_
                refine LW.pure rfl rfl (RV.indexAddr Ts25 rfl rfl hbx2 (hS1.addr_ hx2)) ?_
                refine LW.pure rfl rfl (RV.load1 Tk3 rfl ((hS1.at_ hx2).ext R0) rfl) ?_
                refine LW.pure rfl rfl (RV.assign rfl) ?_
                refine LW.nil (hK24 _ _ ?_)
                obtain ⟨hg3, F⟩ := gd_some F
                obtain ⟨hg4, F⟩ := gd_some F
                refine CW.region ?_
                refine LW.pure rfl rfl (RV.move rfl) ?_
                refine LW.pure rfl rfl (RV.move rfl) ?_
                refine LW.pure rfl rfl (RV.move rfl) ?_
                refine LW.pure rfl rfl (RV.sub rfl rfl hg3) ?_
                refine LW.go rfl rfl (OW.buildSlice (e := 3) (vs := [.int .i64 (x2 - a1)]) (cs := [.int .i64 (x2 - a1)]) rfl (fun _ => by kernel_rfl) fun b5 w12 N5 => ?_)
                replace H := H.made' (k := 1) (t := 3) (enc := encN) (l := ([x2 - a1] : List Int)) N5 N5.blk (fun _ => rfl) rfl (by first | decide | omega | (simp; done) | (simp; omega))
                replace R0 := H.ext
                refine LW.go rfl rfl (OW.appendG (enc := encN) (l := l2) (xs := ([x2 - a1] : List Int)) Ts25 rfl (look_slice rfl (by first | rfl | (simp; done) | (simp; omega))) (H.own 1 rfl) (H.own 0 rfl).sl (fun _ => rfl) rfl rfl hg4 (by decide) fun A3 c3 w13 O2 M2 D2 => ?_)
                replace H : Hp w w13 [.own (some ⟨b5, 0, none⟩) ((([x2 - a1] : List Int)).length) 3 1 (List.map encN (([x2 - a1] : List Int))), .own A3 c3 3 1 (List.map encN ((l2 ++ ([x2 - a1] : List Int)))), .tab Am3 cm3 25 hsm3 3 1 (encM encN m3), .blk b2 24 [.slice none 0 0], .blk b3 24 [.slice Am3 m3.length cm3]] := H.mod 1 rfl M2 O2 D2
                replace R0 := H.ext
                refine LW.pure rfl rfl (RV.assign rfl) ?_
                refine LW.nil (hK23 _ _ ?_)
                obtain ⟨hg5, F⟩ := gd_some F
                refine CW.region ?_
                refine LW.pure rfl rfl (RV.add rfl rfl hg5) ?_
                refine LW.pure rfl rfl (RV.move rfl) ?_
                refine LW.nil ?_
                replace H := H.pick (L' := [.own A3 c3 3 1 (List.map encN ((l2 ++ ([x2 - a1] : List Int)))), .tab Am3 cm3 25 hsm3 3 1 (encM encN m3), .blk b2 24 [.slice none 0 0], .blk b3 24 [.slice Am3 m3.length cm3]]) [1, 2, 3, 4] (by decide) rfl
                replace R0 := H.ext
                subst hrec2
                refine ⟨mk2, Nat.lt_succ_self _, _, ?_, (t32_1 + 1), ((l2 ++ ([x2 - a1] : List Int))), A3, c3, F, rfl, H⟩
                exact ⟨rfl, rfl, rfl, rfl, (look_slice rfl (by first | rfl | (simp; done) | (simp; omega))), rfl, rfl, rfl, rfl, rfl, rfl, trivial⟩
              ·
                replace F := ite_n hp5 F
                have hq5 := dec_f hp5
                refine CW.condF rfl hq5 ?_
                refine CW.exit (jK749 _ _ ⟨_, ?_, ⟨l2, Al2, cl2, F, rfl, H⟩⟩)
                exact ⟨rfl, rfl, rfl, rfl, (look_slice rfl (by first | rfl | (simp; done) | (simp; omega))), rfl, rfl, rfl, trivial⟩
        ·
          replace F := ite_n hp4 F
          have hq4 := dec_f hp4
          refine CW.condF rfl hq4 ?_
          refine CW.exit (jK578 _ _ ⟨_, ?_, ⟨m3, hsm3, Am3, cm3, F, rfl, H⟩⟩)
          exact ⟨rfl, rfl, rfl, trivial⟩
    ·
      replace F := ite_n hp2 F
      have hq2 : r3 = false := raw_f hp2
      refine CW.condT rfl (not_t hq2) ?_
      refine CW.seq fun K25 hK25 => ?_
      refine CW.region ?_
      refine LW.pure rfl rfl (RV.build (vs := []) (cs := [.slice none 0 0]) rfl (fun _ => by kernel_rfl)) ?_
      refine LW.go rfl rfl (OW.store Tk24 rfl rfl (H.blk 0 rfl) (off := 0) (vs := [.slice none 0 0]) rfl rfl rfl rfl rfl fun w14 S4 => ?_)
      replace H : Hp w w14 [.blk b2 24 [.slice none 0 0], .blk b1 24 [.slice A_a0_worth a0.worth.length c_a0_worth]] := H.stored 0 rfl S4
      replace R0 := H.ext
      refine LW.pure rfl rfl (RV.assign rfl) ?_
      refine LW.nil (hK25 _ _ ?_)
      refine CW.ret ?_
      obtain rfl := Option.some.inj F
      refine ⟨_, (ResOK.two ⟨_, rfl, run_loadVar_agg Tk24 (H.blk 0 rfl).cells (us := [.slice none 0 0]) rfl rfl⟩ rfl), ?_⟩
      replace H := H.nilTab encN 25 3 1
      replace R0 := H.ext
      replace H := H.pick (L' := [.tab none 0 25 ([]) 3 1 (encM encN (([] : List (List Int))))]) [0] (by decide) rfl
      replace R0 := H.ext
      exact ⟨none, 0, ([]), (by first | rfl | (simp; done) | (simp; omega)), H⟩
  ·
    replace F := ite_n hp1 F
    have hq1 := dec_f hp1
    refine CW.condT rfl (not_t hq1) ?_
    refine CW.seq fun K26 hK26 => ?_
    refine CW.region ?_
    refine LW.pure rfl rfl (RV.build (vs := []) (cs := [.slice none 0 0]) rfl (fun _ => by kernel_rfl)) ?_
    refine LW.pure rfl rfl (RV.move rfl) ?_
    refine LW.go rfl rfl (OW.store Tk24 rfl rfl (H.blk 0 rfl) (off := 0) (vs := [.slice none 0 0]) rfl rfl rfl rfl rfl fun w15 S5 => ?_)
    replace H : Hp w w15 [.blk b2 24 [.slice none 0 0], .blk b1 24 [.slice A_a0_worth a0.worth.length c_a0_worth]] := H.stored 0 rfl S5
    replace R0 := H.ext
    refine LW.pure rfl rfl (RV.assign rfl) ?_
    refine LW.nil (hK26 _ _ ?_)
    refine CW.ret ?_
    obtain rfl := Option.some.inj F
    refine ⟨_, (ResOK.two ⟨_, rfl, run_loadVar_agg Tk24 (H.blk 0 rfl).cells (us := [.slice none 0 0]) rfl rfl⟩ rfl), ?_⟩
    replace H := H.nilTab encN 25 3 1
    replace R0 := H.ext
    replace H := H.pick (L' := [.tab none 0 25 ([]) 3 1 (encM encN (([] : List (List Int))))]) [0] (by decide) rfl
    replace R0 := H.ext
    exact ⟨none, 0, ([]), (by first | rfl | (simp; done) | (simp; omega)), H⟩
end Go.D4

set_option linter.unusedVariables false
set_option linter.unusedSimpArgs false
namespace Go.D4
open Go.Tb Go.Proofs Go.RowKit
theorem Tc30 : callable Try.prog 30 = true := by kernel_rfl
theorem Tc47 : callable Try.prog 47 = true := by kernel_rfl
set_option maxRecDepth 20000 in
set_option maxHeartbeats 1000000 in
theorem cut_Deepest_ok {a0 : Bog} {A_a0_worth : Option Addr} {c_a0_worth : Nat} {w : World} {res : (List Int) × Int × Int} (h_a0_worth : Sl2 w A_a0_worth c_a0_worth 1 encN a0.worth) (F : cut_Deepest a0 = some res) : Calls Try.prog 30 #[.agg #[.slice A_a0_worth a0.worth.length c_a0_worth]] w (fun e w' => ∃ (A0 : Option Addr) (c0 : Nat), e = .returned (.tuple #[.slice A0 res.1.length c0, .int .i64 res.2.1, .int .i64 res.2.2]) ∧ Hp w w' [.own A0 c0 3 1 (List.map encN res.1)]) := by
  refine calls_of_cw (args := [.agg #[.slice A_a0_worth a0.worth.length c_a0_worth]]) Try.func30 rfl rfl rfl rfl ?_
  have H := Hp.start w
  have R0 := H.ext
  unfold cut_Deepest at F
  refine CW.seq fun K1 hK1 => ?_
  refine CW.region ?_
  refine LW.go rfl rfl (OW.box rfl fun b1 w1 N1 => ?_)
  replace H := H.new N1 N1.blk
  replace R0 := H.ext
  refine LW.pure rfl rfl (RV.assign rfl) ?_
  refine LW.pure rfl rfl (RV.assign rfl) ?_
  refine LW.pure rfl rfl (RV.assign rfl) ?_
  refine LW.nil (hK1 _ _ ?_)
  refine CW.seq fun K2 hK2 => ?_
  refine CW.seq fun K3 hK3 => ?_
  obtain ⟨r1, hr1, F⟩ := bnd_some F
  refine CW.region ?_
  refine LW.pure rfl rfl (RV.loadA [.slice A_a0_worth a0.worth.length c_a0_worth] Tk24 rfl (H.blk 0 rfl).cells rfl rfl) ?_
  refine LW.go rfl rfl (OW.call Tc25 rfl (cut_Validate_ok (a0 := a0) (h_a0_worth.ext R0) hr1) ?_)
  rintro _ w2 ⟨rfl, E1⟩
  refine ⟨_, rfl, ?_⟩
  replace H := H.grow E1
  replace R0 := H.ext
  refine LW.pure rfl rfl (RV.assign rfl) ?_
  refine LW.nil (hK3 _ _ ?_)
  refine CW.seq fun K4 hK4 => ?_
  refine CW.region ?_
  refine LW.pure rfl rfl (RV.move rfl) ?_
  refine LW.pure rfl rfl (RV.nei rfl rfl) ?_
  refine LW.nil (hK4 _ _ ?_)
  by_cases hp1 : r1 = 0
  ·
    replace F := ite_y hp1 F
    have hq1 := dec_t hp1
    refine CW.condF rfl (not_f hq1) ?_
    refine CW.skip (hK2 _ _ ?_)
    refine CW.seq fun K5 hK5 => ?_
    obtain ⟨r2, hr2, F⟩ := bnd_some F
    refine CW.region ?_
    refine LW.pure rfl rfl (RV.loadA [.slice A_a0_worth a0.worth.length c_a0_worth] Tk24 rfl (H.blk 0 rfl).cells rfl rfl) ?_
    refine LW.go rfl rfl (OW.call Tc73 rfl (cut_best_ok (a0 := a0) (a1 := cut_greater) (h_a0_worth.ext R0) (fun x0 x1 r hF w3 hE => CallsV.of Tc77 (cut_greater_ok (a0 := x0) (a1 := x1) hF)) hr2) ?_)
    rintro _ w4 ⟨A6_0, c6_0, rfl, E2⟩
    refine ⟨_, rfl, ?_⟩
    replace H : Hp w w4 [.own A6_0 c6_0 3 1 (List.map encN r2.1), .blk b1 24 [.slice A_a0_worth a0.worth.length c_a0_worth]] := H.append E2
    replace R0 := H.ext
    refine LW.pure rfl rfl (RV.move rfl) ?_
    refine LW.pure rfl rfl (RV.extract rfl rfl) ?_
    refine LW.pure rfl rfl (RV.extract rfl rfl) ?_
    refine LW.pure rfl rfl (RV.assign rfl) ?_
    refine LW.pure rfl rfl (RV.assign rfl) ?_
    refine LW.nil (hK5 _ _ ?_)
    refine CW.seq fun K6 hK6 => ?_
    refine CW.region ?_
    refine LW.pure rfl rfl (RV.move rfl) ?_
    refine LW.pure rfl rfl (RV.move rfl) ?_
    refine LW.pure rfl rfl (RV.assign rfl) ?_
    refine LW.pure rfl rfl (RV.assign rfl) ?_
    refine LW.pure rfl rfl (RV.assign rfl) ?_
    refine LW.nil (hK6 _ _ ?_)
    refine CW.ret ?_
    obtain rfl := Option.some.inj F
    refine ⟨_, (ResOK.three rfl rfl rfl), ?_⟩
    replace H := H.pick (L' := [.own A6_0 c6_0 3 1 (List.map encN r2.1)]) [0] (by decide) rfl
    replace R0 := H.ext
    exact ⟨A6_0, c6_0, (by first | rfl | (simp; done) | (simp; omega)), H⟩
  ·
    replace F := ite_n hp1 F
    have hq1 := dec_f hp1
    refine CW.condT rfl (not_t hq1) ?_
    refine CW.seq fun K7 hK7 => ?_
    refine CW.region ?_
    refine LW.pure rfl rfl (RV.move rfl) ?_
    refine LW.pure rfl rfl (RV.assign rfl) ?_
    refine LW.pure rfl rfl (RV.assign rfl) ?_
    refine LW.pure rfl rfl (RV.assign rfl) ?_
    refine LW.nil (hK7 _ _ ?_)
    refine CW.ret ?_
    obtain rfl := Option.some.inj F
    refine ⟨_, (ResOK.three rfl rfl rfl), ?_⟩
    replace H := H.nilOwn 3 1
    replace R0 := H.ext
    replace H := H.pick (L' := [.own none 0 3 1 (List.map encN (([] : List Int)))]) [0] (by decide) rfl
    replace R0 := H.ext
    exact ⟨none, 0, (by first | rfl | (simp; done) | (simp; omega)), H⟩
end Go.D4

set_option linter.unusedVariables false
set_option linter.unusedSimpArgs false
namespace Go.D4
open Go.Tb Go.Proofs Go.RowKit
theorem Tc33 : callable Try.prog 33 = true := by kernel_rfl
theorem Tc79 : callable Try.prog 79 = true := by kernel_rfl
set_option maxRecDepth 20000 in
set_option maxHeartbeats 1000000 in
theorem cut_CheckOrder_1_ok {cap0 : Bog} {a0 : Int} {A_cap0_worth : Option Addr} {c_cap0_worth : Nat} {b_cap0 : Nat} {w : World} {res : Bool} (h_cap0_worth : Sl2 w A_cap0_worth c_cap0_worth 1 encN cap0.worth) (hc_cap0 : Cells w ⟨b_cap0, 0, none⟩ [.slice A_cap0_worth cap0.worth.length c_cap0_worth]) (F : cut_CheckOrder_1 cap0 a0 = some res) : Calls Try.prog 79 #[.int .i64 a0, .pointer (some (⟨b_cap0, 0, none⟩))] w (Rt w (.bool res)) := by
  refine calls_of_cw (args := [.int .i64 a0, .pointer (some (⟨b_cap0, 0, none⟩))]) Try.func79 rfl rfl rfl rfl ?_
  have H := Hp.start w
  have R0 := H.ext
  unfold cut_CheckOrder_1 at F
  refine CW.seq fun K1 hK1 => ?_
  refine CW.region ?_
  refine LW.pure rfl rfl (RV.assign rfl) ?_
  refine LW.nil (hK1 _ _ ?_)
  refine CW.seq fun K2 hK2 => ?_
  obtain ⟨hg1, F⟩ := gd_some F
  obtain ⟨r1, hr1, F⟩ := bnd_some F
  refine CW.region ?_
  refine LW.pure rfl rfl (RV.move rfl) ?_
  refine LW.pure rfl rfl (RV.fieldAddr Tf24_0 rfl) ?_
  refine LW.pure rfl rfl (RV.load1 Tk22 rfl ((hc_cap0.ext R0).off 0) rfl) ?_
  refine LW.pure rfl rfl (RV.len Ts22 rfl) ?_
  refine LW.pure rfl rfl (RV.sub rfl rfl hg1) ?_
  refine LW.go rfl rfl (OW.call Tc67 rfl (cut_from_ok (a0 := a0) (a1 := (0 : Int)) (a2 := ((cap0.worth.length : Int)) - 1) hr1) ?_)
  rintro _ w1 ⟨rfl, E1⟩
  refine ⟨_, rfl, ?_⟩
  replace H := H.grow E1
  replace R0 := H.ext
  refine LW.pure rfl rfl (RV.not rfl) ?_
  refine LW.pure rfl rfl (RV.assign rfl) ?_
  refine LW.nil (hK2 _ _ ?_)
  refine CW.ret ?_
  obtain rfl := Option.some.inj F
  refine ⟨_, (ResOK.one rfl), ?_⟩
  refine ⟨(by first | rfl | simp), R0⟩
set_option maxRecDepth 20000 in
set_option maxHeartbeats 1000000 in
theorem cut_CheckOrder_ok {a0 : Bog} {a1 : List Int} {A_a0_worth : Option Addr} {c_a0_worth : Nat} {A_a1 : Option Addr} {c_a1 : Nat} {w : World} {res : (List Int) × Int × Int} (h_a0_worth : Sl2 w A_a0_worth c_a0_worth 1 encN a0.worth) (h_a1 : Sl w A_a1 c_a1 1 (a1.map encN)) (F : cut_CheckOrder a0 a1 = some res) : Calls Try.prog 33 #[.agg #[.slice A_a0_worth a0.worth.length c_a0_worth], .slice A_a1 a1.length c_a1] w (fun e w' => ∃ (A0 : Option Addr) (c0 : Nat), e = .returned (.tuple #[.slice A0 res.1.length c0, .int .i64 res.2.1, .int .i64 res.2.2]) ∧ Hp w w' [.own A0 c0 3 1 (List.map encN res.1)]) := by
  refine calls_of_cw (args := [.agg #[.slice A_a0_worth a0.worth.length c_a0_worth], .slice A_a1 a1.length c_a1]) Try.func33 rfl rfl rfl rfl ?_
  have H := Hp.start w
  have R0 := H.ext
  unfold cut_CheckOrder at F
  refine CW.seq fun K1 hK1 => ?_
  refine CW.region ?_
  refine LW.go rfl rfl (OW.box rfl fun b1 w1 N1 => ?_)
  replace H := H.new N1 N1.blk
  replace R0 := H.ext
  refine LW.pure rfl rfl (RV.assign rfl) ?_
  refine LW.pure rfl rfl (RV.assign rfl) ?_
  refine LW.pure rfl rfl (RV.assign rfl) ?_
  refine LW.nil (hK1 _ _ ?_)
  refine CW.seq fun K2 hK2 => ?_
  refine CW.seq fun K3 hK3 => ?_
  obtain ⟨r2, hr2, F⟩ := bnd_some F
  refine CW.region ?_
  refine LW.pure rfl rfl (RV.loadA [.slice A_a0_worth a0.worth.length c_a0_worth] Tk24 rfl (H.blk 0 rfl).cells rfl rfl) ?_
  refine LW.go rfl rfl (OW.call Tc25 rfl (cut_Validate_ok (a0 := a0) (h_a0_worth.ext R0) hr2) ?_)
  rintro _ w2 ⟨rfl, E1⟩
  refine ⟨_, rfl, ?_⟩
  replace H := H.grow E1
  replace R0 := H.ext
  refine LW.pure rfl rfl (RV.assign rfl) ?_
  refine LW.nil (hK3 _ _ ?_)
  refine CW.seq fun K4 hK4 => ?_
  refine CW.region ?_
  refine LW.pure rfl rfl (RV.move rfl) ?_
  refine LW.pure rfl rfl (RV.nei rfl rfl) ?_
  refine LW.nil (hK4 _ _ ?_)
  by_cases hp1 : r2 = 0
  ·
    replace F := ite_y hp1 F
    have hq1 := dec_t hp1
    refine CW.condF rfl (not_f hq1) ?_
    refine CW.skip (hK2 _ _ ?_)
    refine CW.seq fun K5 hK5 => ?_
    refine CW.seq fun K6 hK6 => ?_
    refine CW.region ?_
    refine LW.pure rfl rfl (RV.move rfl) ?_
    refine LW.pure rfl rfl (RV.len Ts25 rfl) ?_
    refine LW.pure rfl rfl (RV.gtr rfl rfl) ?_
    refine LW.nil (hK6 _ _ ?_)
    by_cases hp2 : (24 : Int) < ((a1.length : Int))
    ·
      replace F := ite_y hp2 F
      have hq2 := dec_t hp2
      refine CW.condT rfl hq2 ?_
      refine CW.seq fun K7 hK7 => ?_
      refine CW.region ?_
      refine LW.pure rfl rfl (RV.assign rfl) ?_
      refine LW.pure rfl rfl (RV.assign rfl) ?_
      refine LW.pure rfl rfl (RV.assign rfl) ?_
      refine LW.nil (hK7 _ _ ?_)
      refine CW.ret ?_
      obtain rfl := Option.some.inj F
      refine ⟨_, (ResOK.three rfl rfl rfl), ?_⟩
      replace H := H.nilOwn 3 1
      replace R0 := H.ext
      replace H := H.pick (L' := [.own none 0 3 1 (List.map encN (([] : List Int)))]) [0] (by decide) rfl
      replace R0 := H.ext
      exact ⟨none, 0, (by first | rfl | (simp; done) | (simp; omega)), H⟩
    ·
      replace F := ite_n hp2 F
      have hq2 := dec_f hp2
      refine CW.condF rfl hq2 ?_
      refine CW.skip (hK5 _ _ ?_)
      refine CW.seq fun K8 hK8 => ?_
      refine CW.seq fun K9 hK9 => ?_
      obtain ⟨r3, hr3, F⟩ := bnd_some F
      refine CW.region ?_
      refine LW.pure rfl rfl (RV.move rfl) ?_
      refine LW.pure rfl rfl (RV.makeFunc (fs := []) (cs := [.pointer (some (⟨b1, 0, none⟩))]) rfl rfl) ?_
      refine LW.go rfl rfl (OW.call Tc69 rfl (slices_ContainsFunc_int_ok (a0 := a1) (a1 := (fun x4 => cut_CheckOrder_1 a0 x4)) (h_a1.ext R0) (fun x4 r hF w3 hE => CallsV.cap Tc79 (by simp) (cut_CheckOrder_1_ok (cap0 := a0) (a0 := x4) ((h_a0_worth.ext R0).ext hE) ((H.blk 0 rfl).cells.ext hE) hF)) hr3) ?_)
      rintro _ w4 ⟨rfl, E2⟩
      refine ⟨_, rfl, ?_⟩
      replace H := H.grow E2
      replace R0 := H.ext
      refine LW.nil (hK9 _ _ ?_)
      by_cases hp3 : r3 = true
      ·
        replace F := ite_y hp3 F
        have hq3 : r3 = true := hp3
        refine CW.condT rfl hq3 ?_
        refine CW.seq fun K10 hK10 => ?_
        refine CW.region ?_
        refine LW.pure rfl rfl (RV.assign rfl) ?_
        refine LW.pure rfl rfl (RV.assign rfl) ?_
        refine LW.pure rfl rfl (RV.assign rfl) ?_
        refine LW.nil (hK10 _ _ ?_)
        refine CW.ret ?_
        obtain rfl := Option.some.inj F
        refine ⟨_, (ResOK.three rfl rfl rfl), ?_⟩
        replace H := H.nilOwn 3 1
        replace R0 := H.ext
        replace H := H.pick (L' := [.own none 0 3 1 (List.map encN (([] : List Int)))]) [0] (by decide) rfl
        replace R0 := H.ext
        exact ⟨none, 0, (by first | rfl | (simp; done) | (simp; omega)), H⟩
      ·
        replace F := ite_n hp3 F
        have hq3 : r3 = false := raw_f hp3
        refine CW.condF rfl hq3 ?_
        refine CW.skip (hK8 _ _ ?_)
        refine CW.seq fun K11 hK11 => ?_
        obtain ⟨hg1, F⟩ := gd_some F
        refine CW.region ?_
        refine LW.pure rfl rfl (RV.fieldAddr Tf24_0 rfl) ?_
        refine LW.pure rfl rfl (RV.load1 Tk22 rfl ((H.blk 0 rfl).cells.off 0) rfl) ?_
        refine LW.pure rfl rfl (RV.len Ts22 rfl) ?_
        refine LW.go rfl rfl (OW.makeR (enc := encN) (0 : Int) Ts25 rfl rfl rfl rfl rfl hg1 (by decide) fun b2 w5 N2 => ?_)
        replace H := H.made' (k := 1) (t := 3) (enc := encN) (l := (List.replicate (Int.toNat ((a0.worth.length : Int))) (0 : Int))) N2 N2.blk (fun _ => rfl) rfl (by first | decide | omega | (simp; done) | (simp; omega))
        replace R0 := H.ext
        refine LW.pure rfl rfl (RV.assign rfl) ?_
        refine LW.nil (hK11 _ _ ?_)
        refine CW.seqJ (fun ρ wl1 => (∃ (l1 : List Int), cut_CheckOrder_k1 a1 l1 = some res ∧ ρ = [(1, .slice A_a1 a1.length c_a1), (4, .slice none 0 0), (5, .int .i64 0), (6, .int .i64 0), (8, .slice (some ⟨b2, 0, none⟩) l1.length (((List.replicate (Int.toNat ((a0.worth.length : Int))) (0 : Int))).length))] ∧ Hp w wl1 [.own (some ⟨b2, 0, none⟩) (((List.replicate (Int.toNat ((a0.worth.length : Int))) (0 : Int))).length) 3 1 (List.map encN l1)])) ?_ ?_
        ·
          rintro _ wl1 ⟨l1, F, rfl, H⟩
          have R0 := H.ext
          unfold cut_CheckOrder_k1 at F
          refine CW.seq fun K12 hK12 => ?_
          refine CW.region ?_
          refine LW.pure rfl rfl (RV.move rfl) ?_
          refine LW.pure rfl rfl (RV.move rfl) ?_
          refine LW.pure rfl rfl (RV.len Ts25 rfl) ?_
          refine LW.pure rfl rfl (RV.assign rfl) ?_
          refine LW.pure rfl rfl (RV.assign rfl) ?_
          refine LW.pure rfl rfl (RV.assign rfl) ?_
          refine LW.nil (hK12 _ _ ?_)
          refine CW.ret ?_
          obtain rfl := Option.some.inj F
          refine ⟨_, (ResOK.three rfl rfl rfl), ?_⟩
          exact ⟨(some ⟨b2, 0, none⟩), (((List.replicate (Int.toNat ((a0.worth.length : Int))) (0 : Int))).length), (by first | rfl | (simp; done) | (simp; omega)), H⟩
        ·
          intro K13 hK13 jK93
          refine CW.seq fun K14 hK14 => ?_
          refine CW.region ?_
          refine LW.pure rfl rfl (RV.move rfl) ?_
          refine LW.pure rfl rfl (RV.len Ts25 rfl) ?_
          refine LW.pure rfl rfl (RV.move rfl) ?_
          refine LW.nil (hK14 _ _ ?_)
          refine CW.block ?_
          refine CW.loop (fun meas ρ wl2 => ∃ (t28_1 : Int) (l2 : List Int), cut_CheckOrder_L1 a0 a1 meas t28_1 l2 = some res ∧ ρ = [(1, .slice A_a1 a1.length c_a1), (2, .pointer (some (⟨b1, 0, none⟩))), (4, .slice none 0 0), (5, .int .i64 0), (6, .int .i64 0), (8, .slice (some ⟨b2, 0, none⟩) l2.length (((List.replicate (Int.toNat ((a0.worth.length : Int))) (0 : Int))).length)), (26, .slice A_a1 a1.length c_a1), (27, .int .i64 ((a1.length : Int))), (28, .int .i64 t28_1)] ∧ Hp w wl2 [.own (some ⟨b2, 0, none⟩) (((List.replicate (Int.toNat ((a0.worth.length : Int))) (0 : Int))).length) 3 1 (List.map encN l2), .blk b1 24 [.slice A_a0_worth a0.worth.length c_a0_worth]]) FU ⟨_, ?_, ((0 : Int)), ((List.replicate (Int.toNat ((a0.worth.length : Int))) (0 : Int))), F, rfl, H⟩ ?_
          · exact ⟨rfl, rfl, rfl, rfl, rfl, (look_slice rfl (by first | rfl | (simp; done) | (simp; omega))), rfl, rfl, rfl, trivial⟩
          rintro mk1 _ wl2 ⟨t28_1, l2, F, rfl, H⟩
          have R0 := H.ext
          replace F := cut_CheckOrder_L1_s F
          obtain ⟨mk1, rfl, F⟩ := F
          generalize hrec1 : cut_CheckOrder_L1 a0 a1 mk1 = rec1 at F
          unfold cut_CheckOrder_B1 at F
          refine CW.seq fun K15 hK15 => ?_
          refine CW.region ?_
          refine LW.pure rfl rfl (RV.lss rfl rfl) ?_
          refine LW.nil (hK15 _ _ ?_)
          refine CW.seq fun K16 hK16 => ?_
          by_cases hp4 : t28_1 < ((a1.length : Int))
          ·
            replace F := ite_y hp4 F
            have hq4 := dec_t hp4
            refine CW.condT rfl hq4 ?_
            refine CW.skip (hK16 _ _ ?_)
            refine CW.seq fun K17 hK17 => ?_
            refine CW.block ?_
            refine CW.seq fun K18 hK18 => ?_
            obtain ⟨x1, hbx1, hx1, F⟩ := ix_some F
            refine CW.region ?_
            refine LW.pure rfl rfl (RV.move rfl) ?_
            refine LW.pure rfl rfl (RV.indexAddr Ts25 rfl rfl hbx1 (h_a1.addr_ hx1)) ?_
            refine LW.pure rfl rfl (RV.load1 Tk3 rfl ((h_a1.at_ hx1).ext R0) rfl) ?_
            refine LW.pure rfl rfl (RV.assign rfl) ?_
            refine LW.pure rfl rfl (RV.assign rfl) ?_
            refine LW.nil (hK18 _ _ ?_)
            refine CW.seq fun K19 hK19 => ?_
            refine CW.seq fun K20 hK20 => ?_
            obtain ⟨r1, hr1, F⟩ := bnd_some F
            refine CW.region ?_
            refine LW.pure rfl rfl (RV.loadA [.slice A_a0_worth a0.worth.length c_a0_worth] Tk24 rfl (H.blk 1 rfl).cells rfl rfl) ?_
            refine LW.pure rfl rfl (RV.move rfl) ?_
            refine LW.pure rfl rfl (RV.move rfl) ?_
            refine LW.go rfl rfl (OW.call Tc61 rfl (cut_open_ok (a0 := a0) (a1 := l2) (a2 := x1) (h_a0_worth.ext R0) (H.own 0 rfl).sl hr1) ?_)
            rintro _ w6 ⟨rfl, E3⟩
            refine ⟨_, rfl, ?_⟩
            replace H := H.grow E3
            replace R0 := H.ext
            refine LW.pure rfl rfl (RV.not rfl) ?_
            refine LW.nil (hK20 _ _ ?_)
            by_cases hp5 : r1 = true
            ·
              replace F := ite_y hp5 F
              have hq5 : r1 = true := hp5
              refine CW.condF rfl (not_f hq5) ?_
              refine CW.skip (hK19 _ _ ?_)
              obtain ⟨x2, hbx2, hx2, F⟩ := ix_some F
              obtain ⟨hg2, F⟩ := gd_some F
              obtain ⟨x3, hbx3, hx3, F⟩ := ix_some F
              refine CW.region ?_
              refine LW.pure rfl rfl (RV.move rfl) ?_
              refine LW.pure rfl rfl (RV.move rfl) ?_
              refine LW.pure rfl rfl (RV.indexAddr Ts25 rfl rfl hbx2 ⟨_, rfl⟩) ?_
              refine LW.pure rfl rfl (RV.load1 Tk3 rfl ((H.own 0 rfl).sl.at_ hx2) rfl) ?_
              refine LW.pure rfl rfl (RV.add rfl rfl hg2) ?_
              refine LW.pure rfl rfl (RV.indexAddr Ts25 rfl rfl hbx3 ⟨_, rfl⟩) ?_
              refine LW.go rfl rfl (OW.storeO (enc := encN) (vs := [.int .i64 (x2 + 1)]) 0 (x2 + 1) Tk3 rfl rfl (H.own 0 rfl) (fun _ => rfl) rfl hx3 rfl rfl (by decide) rfl rfl fun w7 M1 O1 => ?_)
              replace H : Hp w w7 [.own (some ⟨b2, 0, none⟩) (((List.replicate (Int.toNat ((a0.worth.length : Int))) (0 : Int))).length) 3 1 (List.map encN ((l2.set (Int.toNat x1) (x2 + 1)))), .blk b1 24 [.slice A_a0_worth a0.worth.length c_a0_worth]] := H.mod 0 rfl M1 O1 (.inl rfl)
              replace R0 := H.ext
              refine LW.nil (hK17 _ _ ?_)
              obtain ⟨hg3, F⟩ := gd_some F
              refine CW.region ?_
              refine LW.pure rfl rfl (RV.add rfl rfl hg3) ?_
              refine LW.pure rfl rfl (RV.move rfl) ?_
              refine LW.nil ?_
              subst hrec1
              refine ⟨mk1, Nat.lt_succ_self _, _, ?_, (t28_1 + 1), ((l2.set (Int.toNat x1) (x2 + 1))), F, rfl, H⟩
              exact ⟨rfl, rfl, rfl, rfl, rfl, (look_slice rfl (by first | rfl | (simp; done) | (simp; omega))), rfl, rfl, rfl, trivial⟩
            ·
              replace F := ite_n hp5 F
              have hq5 : r1 = false := raw_f hp5
              refine CW.condT rfl (not_t hq5) ?_
              refine CW.seq fun K21 hK21 => ?_
              refine CW.region ?_
              refine LW.pure rfl rfl (RV.move rfl) ?_
              refine LW.pure rfl rfl (RV.assign rfl) ?_
              refine LW.pure rfl rfl (RV.assign rfl) ?_
              refine LW.pure rfl rfl (RV.assign rfl) ?_
              refine LW.nil (hK21 _ _ ?_)
              refine CW.ret ?_
              obtain rfl := Option.some.inj F
              refine ⟨_, (ResOK.three rfl rfl rfl), ?_⟩
              replace H := H.nilOwn 3 1
              replace R0 := H.ext
              replace H := H.pick (L' := [.own none 0 3 1 (List.map encN (([] : List Int)))]) [0] (by decide) rfl
              replace R0 := H.ext
              exact ⟨none, 0, (by first | rfl | (simp; done) | (simp; omega)), H⟩
          ·
            replace F := ite_n hp4 F
            have hq4 := dec_f hp4
            refine CW.condF rfl hq4 ?_
            replace H := H.pick (L' := [.own (some ⟨b2, 0, none⟩) (((List.replicate (Int.toNat ((a0.worth.length : Int))) (0 : Int))).length) 3 1 (List.map encN l2)]) [0] (by decide) rfl
            replace R0 := H.ext
            refine CW.exit (jK93 _ _ ⟨_, ?_, ⟨l2, F, rfl, H⟩⟩)
            exact ⟨rfl, rfl, rfl, rfl, (look_slice rfl (by first | rfl | (simp; done) | (simp; omega))), trivial⟩
  ·
    replace F := ite_n hp1 F
    have hq1 := dec_f hp1
    refine CW.condT rfl (not_t hq1) ?_
    refine CW.seq fun K22 hK22 => ?_
    refine CW.region ?_
    refine LW.pure rfl rfl (RV.move rfl) ?_
    refine LW.pure rfl rfl (RV.assign rfl) ?_
    refine LW.pure rfl rfl (RV.assign rfl) ?_
    refine LW.pure rfl rfl (RV.assign rfl) ?_
    refine LW.nil (hK22 _ _ ?_)
    refine CW.ret ?_
    obtain rfl := Option.some.inj F
    refine ⟨_, (ResOK.three rfl rfl rfl), ?_⟩
    replace H := H.nilOwn 3 1
    replace R0 := H.ext
    replace H := H.pick (L' := [.own none 0 3 1 (List.map encN (([] : List Int)))]) [0] (by decide) rfl
    replace R0 := H.ext
    exact ⟨none, 0, (by first | rfl | (simp; done) | (simp; omega)), H⟩
end Go.D4

set_option linter.unusedVariables false
set_option linter.unusedSimpArgs false
namespace Go.D4
open Go.Tb Go.Proofs Go.RowKit
theorem Tc57 : callable Try.prog 57 = true := by kernel_rfl
theorem Tc94 : callable Try.prog 94 = true := by kernel_rfl
set_option maxRecDepth 20000 in
set_option maxHeartbeats 1000000 in
theorem slices_Equal_int_ok {a0 : List Int} {a1 : List Int} {A_a0 : Option Addr} {c_a0 : Nat} {A_a1 : Option Addr} {c_a1 : Nat} {w : World} {res : Bool} (h_a0 : Sl w A_a0 c_a0 1 (a0.map encN)) (h_a1 : Sl w A_a1 c_a1 1 (a1.map encN)) (F : slices_Equal_int a0 a1 = some res) : Calls Try.prog 94 #[.slice A_a0 a0.length c_a0, .slice A_a1 a1.length c_a1] w (Rt w (.bool res)) := by
  refine calls_of_cw (args := [.slice A_a0 a0.length c_a0, .slice A_a1 a1.length c_a1]) Try.func94 rfl rfl rfl rfl ?_
  have H := Hp.start w
  have R0 := H.ext
  unfold slices_Equal_int at F
  refine CW.seq fun K1 hK1 => ?_
  refine CW.region ?_
  refine LW.pure rfl rfl (RV.assign rfl) ?_
  refine LW.nil (hK1 _ _ ?_)
  refine CW.seq fun K2 hK2 => ?_
  refine CW.seq fun K3 hK3 => ?_
  refine CW.region ?_
  refine LW.pure rfl rfl (RV.move rfl) ?_
  refine LW.pure rfl rfl (RV.len Ts25 rfl) ?_
  refine LW.pure rfl rfl (RV.move rfl) ?_
  refine LW.pure rfl rfl (RV.len Ts25 rfl) ?_
  refine LW.pure rfl rfl (RV.nei rfl rfl) ?_
  refine LW.nil (hK3 _ _ ?_)
  by_cases hp1 : ((a0.length : Int)) = ((a1.length : Int))
  ·
    replace F := ite_y hp1 F
    have hq1 := dec_t hp1
    refine CW.condF rfl (not_f hq1) ?_
    refine CW.skip (hK2 _ _ ?_)
    refine CW.seqJ (fun ρ wl1 => (slices_Equal_int_k1 = some res ∧ ρ = [(4, .bool false)] ∧ Hp w wl1 [])) ?_ ?_
    ·
      rintro _ wl1 ⟨F, rfl, H⟩
      have R0 := H.ext
      unfold slices_Equal_int_k1 at F
      refine CW.seq fun K4 hK4 => ?_
      refine CW.region ?_
      refine LW.pure rfl rfl (RV.assign rfl) ?_
      refine LW.nil (hK4 _ _ ?_)
      refine CW.ret ?_
      obtain rfl := Option.some.inj F
      refine ⟨_, (ResOK.one rfl), ?_⟩
      refine ⟨(by first | rfl | simp), R0⟩
    ·
      intro K5 hK5 jK68
      refine CW.seq fun K6 hK6 => ?_
      refine CW.region ?_
      refine LW.pure rfl rfl (RV.move rfl) ?_
      refine LW.pure rfl rfl (RV.len Ts25 rfl) ?_
      refine LW.pure rfl rfl (RV.move rfl) ?_
      refine LW.nil (hK6 _ _ ?_)
      refine CW.block ?_
      refine CW.loop (fun meas ρ wl2 => ∃ (t13_1 : Int), slices_Equal_int_L1 a0 a1 meas t13_1 = some res ∧ ρ = [(0, .slice A_a0 a0.length c_a0), (1, .slice A_a1 a1.length c_a1), (4, .bool false), (12, .int .i64 ((a0.length : Int))), (13, .int .i64 t13_1)] ∧ Hp w wl2 []) FU ⟨_, ?_, ((0 : Int)), F, rfl, H⟩ ?_
      · exact ⟨rfl, rfl, rfl, rfl, rfl, trivial⟩
      rintro mk1 _ wl2 ⟨t13_1, F, rfl, H⟩
      have R0 := H.ext
      replace F := slices_Equal_int_L1_s F
      obtain ⟨mk1, rfl, F⟩ := F
      generalize hrec1 : slices_Equal_int_L1 a0 a1 mk1 = rec1 at F
      unfold slices_Equal_int_B1 at F
      refine CW.seq fun K7 hK7 => ?_
      refine CW.region ?_
      refine LW.pure rfl rfl (RV.lss rfl rfl) ?_
      refine LW.nil (hK7 _ _ ?_)
      refine CW.seq fun K8 hK8 => ?_
      by_cases hp2 : t13_1 < ((a0.length : Int))
      ·
        replace F := ite_y hp2 F
        have hq2 := dec_t hp2
        refine CW.condT rfl hq2 ?_
        refine CW.skip (hK8 _ _ ?_)
        refine CW.seq fun K9 hK9 => ?_
        refine CW.block ?_
        refine CW.seq fun K10 hK10 => ?_
        refine CW.region ?_
        refine LW.pure rfl rfl (RV.move rfl) ?_
        refine LW.pure rfl rfl (RV.assign rfl) ?_
        refine LW.nil (hK10 _ _ ?_)
        refine CW.seq fun K11 hK11 => ?_
        obtain ⟨x1, hbx1, hx1, F⟩ := ix_some F
        obtain ⟨x2, hbx2, hx2, F⟩ := ix_some F
        refine CW.draw [] (fun _ => True) (.cons 0 1 (.cons 1 1 (.cons 2 1 (.cons 3 1 (.cons 4 1 (.cons 5 1 (.cons 6 1 (.cons 7 1 (.cons 8 1 .nil))))))))) mixed (by kernel_rfl) fun w1 E1 => ?_
        replace H := H.grow E1
        replace R0 := H.ext
        refine DW.fix rfl rfl rfl (fun _ EQ => RV.move rfl) ?_
        refine DW.fix rfl rfl rfl (fun _ EQ => RV.move rfl) ?_
        refine DW.fix rfl rfl rfl (fun _ EQ => RV.indexAddr Ts25 rfl rfl hbx1 (h_a0.addr_ hx1)) ?_
        refine DW.fix rfl rfl rfl (fun _ EQ => RV.load1 Tk3 rfl ((h_a0.at_ hx1).ext (R0.trans EQ)) rfl) ?_
        refine DW.fix rfl rfl rfl (fun _ EQ => RV.move rfl) ?_
        refine DW.fix rfl rfl rfl (fun _ EQ => RV.move rfl) ?_
        refine DW.fix rfl rfl rfl (fun _ EQ => RV.indexAddr Ts25 rfl rfl hbx2 (h_a1.addr_ hx2)) ?_
        refine DW.fix rfl rfl rfl (fun _ EQ => RV.load1 Tk3 rfl ((h_a1.at_ hx2).ext (R0.trans EQ)) rfl) ?_
        refine DW.fix rfl rfl rfl (fun _ EQ => RV.nei rfl rfl) ?_
        refine DW.nil (hK11 _ _ ?_)
        by_cases hp3 : x1 = x2
        ·
          replace F := ite_y hp3 F
          have hq3 := dec_t hp3
          refine CW.condF rfl (not_f hq3) ?_
          refine CW.skip (hK9 _ _ ?_)
          obtain ⟨hg1, F⟩ := gd_some F
          refine CW.region ?_
          refine LW.pure rfl rfl (RV.add rfl rfl hg1) ?_
          refine LW.pure rfl rfl (RV.move rfl) ?_
          refine LW.nil ?_
          subst hrec1
          refine ⟨mk1, Nat.lt_succ_self _, _, ?_, (t13_1 + 1), F, rfl, H⟩
          exact ⟨rfl, rfl, rfl, rfl, rfl, trivial⟩
        ·
          replace F := ite_n hp3 F
          have hq3 := dec_f hp3
          refine CW.condT rfl (not_t hq3) ?_
          refine CW.seq fun K12 hK12 => ?_
          refine CW.region ?_
          refine LW.pure rfl rfl (RV.assign rfl) ?_
          refine LW.nil (hK12 _ _ ?_)
          refine CW.ret ?_
          obtain rfl := Option.some.inj F
          refine ⟨_, (ResOK.one rfl), ?_⟩
          refine ⟨(by first | rfl | simp), R0⟩
      ·
        replace F := ite_n hp2 F
        have hq2 := dec_f hp2
        refine CW.condF rfl hq2 ?_
        refine CW.exit (jK68 _ _ ⟨_, ?_, ⟨F, rfl, H⟩⟩)
        exact ⟨rfl, trivial⟩
  ·
    replace F := ite_n hp1 F
    have hq1 := dec_f hp1
    refine CW.condT rfl (not_t hq1) ?_
    refine CW.seq fun K13 hK13 => ?_
    refine CW.region ?_
    refine LW.pure rfl rfl (RV.assign rfl) ?_
    refine LW.nil (hK13 _ _ ?_)
    refine CW.ret ?_
    obtain rfl := Option.some.inj F
    refine ⟨_, (ResOK.one rfl), ?_⟩
    refine ⟨(by first | rfl | simp), R0⟩
set_option maxRecDepth 20000 in
set_option maxHeartbeats 1000000 in
theorem cut_Order_ok {a0 : Bog} {a1 : List Int} {A_a0_worth : Option Addr} {c_a0_worth : Nat} {A_a1 : Option Addr} {c_a1 : Nat} {w : World} {res : (List Int) × Int} (h_a0_worth : Sl2 w A_a0_worth c_a0_worth 1 encN a0.worth) (h_a1 : Sl w A_a1 c_a1 1 (a1.map encN)) (F : cut_Order a0 a1 = some res) : Calls Try.prog 57 #[.agg #[.slice A_a0_worth a0.worth.length c_a0_worth], .slice A_a1 a1.length c_a1] w (fun e w' => ∃ (A1 : Option Addr) (c1 : Nat), e = .returned (.tuple #[.slice A1 res.1.length c1, .int .i64 res.2]) ∧ Hp w w' [.own A1 c1 3 1 (List.map encN res.1)]) := by
  refine calls_of_cw (args := [.agg #[.slice A_a0_worth a0.worth.length c_a0_worth], .slice A_a1 a1.length c_a1]) Try.func57 rfl rfl rfl rfl ?_
  have H := Hp.start w
  have R0 := H.ext
  unfold cut_Order at F
  refine CW.seq fun K1 hK1 => ?_
  refine CW.region ?_
  refine LW.go rfl rfl (OW.box rfl fun b1 w1 N1 => ?_)
  replace H := H.new N1 N1.blk
  replace R0 := H.ext
  refine LW.pure rfl rfl (RV.assign rfl) ?_
  refine LW.pure rfl rfl (RV.assign rfl) ?_
  refine LW.nil (hK1 _ _ ?_)
  refine CW.seq fun K2 hK2 => ?_
  refine CW.seq fun K3 hK3 => ?_
  obtain ⟨r3, hr3, F⟩ := bnd_some F
  refine CW.region ?_
  refine LW.pure rfl rfl (RV.loadA [.slice A_a0_worth a0.worth.length c_a0_worth] Tk24 rfl (H.blk 0 rfl).cells rfl rfl) ?_
  refine LW.pure rfl rfl (RV.move rfl) ?_
  refine LW.go rfl rfl (OW.call Tc22 rfl (cut_CheckHollow_ok (a0 := a0) (a1 := a1) (h_a0_worth.ext R0) (h_a1.ext R0) hr3) ?_)
  rintro _ w2 ⟨rfl, E1⟩
  refine ⟨_, rfl, ?_⟩
  replace H := H.grow E1
  replace R0 := H.ext
  refine LW.pure rfl rfl (RV.assign rfl) ?_
  refine LW.nil (hK3 _ _ ?_)
  refine CW.seq fun K4 hK4 => ?_
  refine CW.region ?_
  refine LW.pure rfl rfl (RV.move rfl) ?_
  refine LW.pure rfl rfl (RV.nei rfl rfl) ?_
  refine LW.nil (hK4 _ _ ?_)
  by_cases hp1 : r3 = 0
  ·
    replace F := ite_y hp1 F
    have hq1 := dec_t hp1
    refine CW.condF rfl (not_f hq1) ?_
    refine CW.skip (hK2 _ _ ?_)
    refine CW.seq fun K5 hK5 => ?_
    refine CW.region ?_
    refine LW.pure rfl rfl (RV.assign rfl) ?_
    refine LW.nil (hK5 _ _ ?_)
    refine CW.seq fun K6 hK6 => ?_
    obtain ⟨hg1, F⟩ := gd_some F
    refine CW.region ?_
    refine LW.pure rfl rfl (RV.move rfl) ?_
    refine LW.pure rfl rfl (RV.len Ts25 rfl) ?_
    refine LW.go rfl rfl (OW.makeR (enc := encN) (0 : Int) Ts25 rfl rfl rfl rfl rfl hg1 (by decide) fun b2 w3 N2 => ?_)
    replace H := H.made' (k := 1) (t := 3) (enc := encN) (l := (List.replicate (Int.toNat ((a1.length : Int))) (0 : Int))) N2 N2.blk (fun _ => rfl) rfl (by first | decide | omega | (simp; done) | (simp; omega))
    replace R0 := H.ext
    refine LW.pure rfl rfl (RV.assign rfl) ?_
    refine LW.nil (hK6 _ _ ?_)
    refine CW.seqJ (fun ρ wl1 => (∃ (l1 : List Int) (Al1 : Option Addr) (cl1 : Nat), cut_Order_k1 l1 = some res ∧ ρ = [(4, .slice none 0 0), (5, .int .i64 0), (7, .slice Al1 l1.length cl1)] ∧ Hp w wl1 [.own Al1 cl1 3 1 (List.map encN l1)])) ?_ ?_
    ·
      rintro _ wl1 ⟨l1, Al1, cl1, F, rfl, H⟩
      have R0 := H.ext
      unfold cut_Order_k1 at F
      refine CW.seq fun K7 hK7 => ?_
      refine CW.region ?_
      refine LW.pure rfl rfl (RV.move rfl) ?_
      refine LW.pure rfl rfl (RV.assign rfl) ?_
      refine LW.pure rfl rfl (RV.assign rfl) ?_
      refine LW.nil (hK7 _ _ ?_)
      refine CW.ret ?_
      obtain rfl := Option.some.inj F
      refine ⟨_, (ResOK.two rfl rfl), ?_⟩
      exact ⟨Al1, cl1, (by first | rfl | (simp; done) | (simp; omega)), H⟩
    ·
      intro K8 hK8 jK233
      refine CW.block ?_
      replace H := H.nilOwn 3 1
      replace R0 := H.ext
      refine CW.loop (fun meas ρ wl2 => ∃ (l2 : List Int) (l3 : List Int) (Al2 : Option Addr) (cl2 : Nat), cut_Order_L2 a0 a1 meas l2 l3 = some res ∧ ρ = [(1, .slice A_a1 a1.length c_a1), (2, .pointer (some (⟨b1, 0, none⟩))), (4, .slice none 0 0), (5, .int .i64 0), (7, .slice Al2 l2.length cl2), (8, .slice (some ⟨b2, 0, none⟩) l3.length (((List.replicate (Int.toNat ((a1.length : Int))) (0 : Int))).length))] ∧ Hp w wl2 [.own Al2 cl2 3 1 (List.map encN l2), .own (some ⟨b2, 0, none⟩) (((List.replicate (Int.toNat ((a1.length : Int))) (0 : Int))).length) 3 1 (List.map encN l3), .blk b1 24 [.slice A_a0_worth a0.worth.length c_a0_worth]]) FU ⟨_, ?_, (([] : List Int)), ((List.replicate (Int.toNat ((a1.length : Int))) (0 : Int))), none, 0, F, rfl, H⟩ ?_
      · exact ⟨rfl, rfl, rfl, rfl, (look_slice rfl (by first | rfl | (simp; done) | (simp; omega))), (look_slice rfl (by first | rfl | (simp; done) | (simp; omega))), trivial⟩
      rintro mk1 _ wl2 ⟨l2, l3, Al2, cl2, F, rfl, H⟩
      have R0 := H.ext
      replace F := cut_Order_L2_s F
      obtain ⟨mk1, rfl, F⟩ := F
      generalize hrec1 : cut_Order_L2 a0 a1 mk1 = rec1 at F
      unfold cut_Order_B2 at F
      refine CW.seq fun K9 hK9 => ?_
      refine CW.seq fun K10 hK10 => ?_
      obtain ⟨r2, hr2, F⟩ := bnd_some F
      refine CW.region ?_
      refine LW.pure rfl rfl (RV.move rfl) ?_
      refine LW.pure rfl rfl (RV.move rfl) ?_
      refine LW.go rfl rfl (OW.call Tc94 rfl (slices_Equal_int_ok (a0 := l3) (a1 := a1) (H.own 1 rfl).sl (h_a1.ext R0) hr2) ?_)
      rintro _ w4 ⟨rfl, E2⟩
      refine ⟨_, rfl, ?_⟩
      replace H := H.grow E2
      replace R0 := H.ext
      refine LW.pure rfl rfl (RV.not rfl) ?_
      refine LW.nil (hK10 _ _ ?_)
      by_cases hp2 : r2 = true
      ·
        replace F := ite_y hp2 F
        have hq2 : r2 = true := hp2
        refine CW.condF rfl (not_f hq2) ?_
        replace H := H.pick (L' := [.own Al2 cl2 3 1 (List.map encN l2)]) [0] (by decide) rfl
        replace R0 := H.ext
        refine CW.exit (jK233 _ _ ⟨_, ?_, ⟨l2, Al2, cl2, F, rfl, H⟩⟩)
        exact ⟨rfl, rfl, (look_slice rfl (by first | rfl | (simp; done) | (simp; omega))), trivial⟩
      ·
        replace F := ite_n hp2 F
        have hq2 : r2 = false := raw_f hp2
        refine CW.condT rfl (not_t hq2) ?_
        refine CW.skip (hK9 _ _ ?_)
        refine CW.block ?_
        refine CW.seq fun K11 hK11 => ?_
        refine CW.region ?_
        refine LW.pure rfl rfl (RV.move rfl) ?_
        refine LW.pure rfl rfl (RV.len Ts25 rfl) ?_
        refine LW.pure rfl rfl (RV.move rfl) ?_
        refine LW.nil (hK11 _ _ ?_)
        refine CW.block ?_
        refine CW.loop (fun meas ρ wl3 => ∃ (t25_1 : Int), cut_Order_L1 a0 a1 l2 l3 rec1 meas t25_1 = some res ∧ ρ = [(1, .slice A_a1 a1.length c_a1), (2, .pointer (some (⟨b1, 0, none⟩))), (4, .slice none 0 0), (5, .int .i64 0), (7, .slice Al2 l2.length cl2), (8, .slice (some ⟨b2, 0, none⟩) l3.length (((List.replicate (Int.toNat ((a1.length : Int))) (0 : Int))).length)), (24, .int .i64 ((l3.length : Int))), (25, .int .i64 t25_1)] ∧ Hp w wl3 [.own Al2 cl2 3 1 (List.map encN l2), .own (some ⟨b2, 0, none⟩) (((List.replicate (Int.toNat ((a1.length : Int))) (0 : Int))).length) 3 1 (List.map encN l3), .blk b1 24 [.slice A_a0_worth a0.worth.length c_a0_worth]]) FU ⟨_, ?_, ((0 : Int)), F, rfl, H⟩ ?_
        · exact ⟨rfl, rfl, rfl, rfl, (look_slice rfl (by first | rfl | (simp; done) | (simp; omega))), (look_slice rfl (by first | rfl | (simp; done) | (simp; omega))), rfl, rfl, trivial⟩
        rintro mk2 _ wl3 ⟨t25_1, F, rfl, H⟩
        have R0 := H.ext
        replace F := cut_Order_L1_s F
        obtain ⟨mk2, rfl, F⟩ := F
        generalize hrec2 : cut_Order_L1 a0 a1 l2 l3 rec1 mk2 = rec2 at F
        unfold cut_Order_B1 at F
        refine CW.seq fun K12 hK12 => ?_
        refine CW.region ?_
        refine LW.pure rfl rfl (RV.lss rfl rfl) ?_
        refine LW.nil (hK12 _ _ ?_)
        refine CW.seq fun K13 hK13 => ?_
        by_cases hp3 : t25_1 < ((l3.length : Int))
        ·
          replace F := ite_y hp3 F
          have hq3 := dec_t hp3
          refine CW.condT rfl hq3 ?_
          refine CW.skip (hK13 _ _ ?_)
          refine CW.seq fun K14 hK14 => ?_
          refine CW.block ?_
          refine CW.seq fun K15 hK15 => ?_
          refine CW.region ?_
          refine LW.pure rfl rfl (RV.move rfl) ?_
          refine LW.pure rfl rfl (RV.assign rfl) ?_
          refine LW.nil (hK15 _ _ ?_)
          refine CW.seqJ (fun ρ wl4 => (∃ (t42_1 : Bool), cut_Order_k2 l2 l3 rec1 t25_1 rec2 t42_1 = some res ∧ ρ = [(1, .slice A_a1 a1.length c_a1), (2, .pointer (some (⟨b1, 0, none⟩))), (4, .slice none 0 0), (5, .int .i64 0), (7, .slice Al2 l2.length cl2), (8, .slice (some ⟨b2, 0, none⟩) l3.length (((List.replicate (Int.toNat ((a1.length : Int))) (0 : Int))).length)), (9, .int .i64 t25_1), (24, .int .i64 ((l3.length : Int))), (25, .int .i64 t25_1), (42, .bool t42_1)] ∧ Hp w wl4 [.own Al2 cl2 3 1 (List.map encN l2), .own (some ⟨b2, 0, none⟩) (((List.replicate (Int.toNat ((a1.length : Int))) (0 : Int))).length) 3 1 (List.map encN l3), .blk b1 24 [.slice A_a0_worth a0.worth.length c_a0_worth]])) ?_ ?_
          ·
            rintro _ wl4 ⟨t42_1, F, rfl, H⟩
            have R0 := H.ext
            unfold cut_Order_k2 at F
            by_cases hp4 : t42_1 = true
            ·
              replace F := ite_y hp4 F
              have hq4 : t42_1 = true := hp4
              refine CW.condT rfl hq4 ?_
              refine CW.seq fun K16 hK16 => ?_
              obtain ⟨x1, hbx1, hx1, F⟩ := ix_some F
              obtain ⟨hg2, F⟩ := gd_some F
              obtain ⟨x2, hbx2, hx2, F⟩ := ix_some F
              refine CW.region ?_
              refine LW.pure rfl rfl (RV.move rfl) ?_
              refine LW.pure rfl rfl (RV.move rfl) ?_
              refine LW.pure rfl rfl (RV.indexAddr Ts25 rfl rfl hbx1 ⟨_, rfl⟩) ?_
              refine LW.pure rfl rfl (RV.load1 Tk3 rfl ((H.own 1 rfl).sl.at_ hx1) rfl) ?_
              refine LW.pure rfl rfl (RV.add rfl rfl hg2) ?_
              refine LW.pure rfl rfl (RV.indexAddr Ts25 rfl rfl hbx2 ⟨_, rfl⟩) ?_
              refine LW.go rfl rfl (OW.storeO (enc := encN) (vs := [.int .i64 (x1 + 1)]) 0 (x1 + 1) Tk3 rfl rfl (H.own 1 rfl) (fun _ => rfl) rfl hx2 rfl rfl (by decide) rfl rfl fun w5 M1 O1 => ?_)
              replace H : Hp w w5 [.own Al2 cl2 3 1 (List.map encN l2), .own (some ⟨b2, 0, none⟩) (((List.replicate (Int.toNat ((a1.length : Int))) (0 : Int))).length) 3 1 (List.map encN ((l3.set (Int.toNat t25_1) (x1 + 1)))), .blk b1 24 [.slice A_a0_worth a0.worth.length c_a0_worth]] := H.mod 1 rfl M1 O1 (.inl rfl)
              replace R0 := H.ext
              refine LW.nil (hK16 _ _ ?_)
              refine CW.seq fun K17 hK17 => ?_
              obtain ⟨hg3, F⟩ := gd_some F
              refine CW.region ?_
              refine LW.pure rfl rfl (RV.move rfl) ?_
              refine LW.pure rfl rfl (RV.move rfl) ?_
              refine LW.go rfl rfl (OW.buildSlice (e := 3) (vs := [.int .i64 t25_1]) (cs := [.int .i64 t25_1]) rfl (fun _ => by kernel_rfl) fun b3 w6 N3 => ?_)
              replace H := H.made' (k := 1) (t := 3) (enc := encN) (l := ([t25_1] : List Int)) N3 N3.blk (fun _ => rfl) rfl (by first | decide | omega | (simp; done) | (simp; omega))
              replace R0 := H.ext
              refine LW.go rfl rfl (OW.appendG (enc := encN) (l := l2) (xs := ([t25_1] : List Int)) Ts25 rfl (look_slice rfl (by first | rfl | (simp; done) | (simp; omega))) (H.own 1 rfl) (H.own 0 rfl).sl (fun _ => rfl) rfl rfl hg3 (by decide) fun A2 c2 w7 O2 M2 D1 => ?_)
              replace H : Hp w w7 [.own (some ⟨b3, 0, none⟩) ((([t25_1] : List Int)).length) 3 1 (List.map encN (([t25_1] : List Int))), .own A2 c2 3 1 (List.map encN ((l2 ++ ([t25_1] : List Int)))), .own (some ⟨b2, 0, none⟩) (((List.replicate (Int.toNat ((a1.length : Int))) (0 : Int))).length) 3 1 (List.map encN ((l3.set (Int.toNat t25_1) (x1 + 1)))), .blk b1 24 [.slice A_a0_worth a0.worth.length c_a0_worth]] := H.mod 1 rfl M2 O2 D1
              replace R0 := H.ext
              refine LW.pure rfl rfl (RV.assign rfl) ?_
              refine LW.nil (hK17 _ _ ?_)
              refine CW.exit ?_
              replace H := H.pick (L' := [.own A2 c2 3 1 (List.map encN ((l2 ++ ([t25_1] : List Int)))), .own (some ⟨b2, 0, none⟩) (((List.replicate (Int.toNat ((a1.length : Int))) (0 : Int))).length) 3 1 (List.map encN ((l3.set (Int.toNat t25_1) (x1 + 1)))), .blk b1 24 [.slice A_a0_worth a0.worth.length c_a0_worth]]) [1, 2, 3] (by decide) rfl
              replace R0 := H.ext
              subst hrec1
              refine ⟨mk1, Nat.lt_succ_self _, _, ?_, ((l2 ++ ([t25_1] : List Int))), ((l3.set (Int.toNat t25_1) (x1 + 1))), A2, c2, F, rfl, H⟩
              exact ⟨rfl, rfl, rfl, rfl, (look_slice rfl (by first | rfl | (simp; done) | (simp; omega))), (look_slice rfl (by first | rfl | (simp; done) | (simp; omega))), trivial⟩
            ·
              replace F := ite_n hp4 F
              have hq4 : t42_1 = false := raw_f hp4
              refine CW.condF rfl hq4 ?_
              refine CW.skip (hK14 _ _ ?_)
              obtain ⟨hg4, F⟩ := gd_some F
              refine CW.region ?_
              refine LW.pure rfl rfl (RV.add rfl rfl hg4) ?_
              refine LW.pure rfl rfl (RV.move rfl) ?_
              refine LW.nil ?_
              subst hrec2
              refine ⟨mk2, Nat.lt_succ_self _, _, ?_, (t25_1 + 1), F, rfl, H⟩
              exact ⟨rfl, rfl, rfl, rfl, (look_slice rfl (by first | rfl | (simp; done) | (simp; omega))), (look_slice rfl (by first | rfl | (simp; done) | (simp; omega))), rfl, rfl, trivial⟩
          ·
            intro K18 hK18 jK305
            obtain ⟨x3, hbx3, hx3, F⟩ := ix_some F
            obtain ⟨x4, hbx4, hx4, F⟩ := ix_some F
            by_cases hp5 : x3 < x4
            ·
              replace F := ite_y hp5 F
              have hq5 := dec_t hp5
              obtain ⟨r1, hr1, F⟩ := bnd_some F
              refine CW.draw [] (fun _ => True) (.cons 0 1 (.cons 1 1 (.cons 2 1 (.cons 3 1 (.cons 4 1 (.cons 5 1 (.cons 6 1 (.cons 7 1 (.cons 8 1 (.cons 9 1 (.cons 10 1 (.cons 11 1 (.cons 12 1 (.cons 13 0 (.cons 14 1 .nil))))))))))))))) mixed (by kernel_rfl) fun w8 E3 => ?_
              replace H := H.grow E3
              replace R0 := H.ext
              refine DW.fix rfl rfl rfl (fun _ EQ => RV.move rfl) ?_
              refine DW.fix rfl rfl rfl (fun _ EQ => RV.move rfl) ?_
              refine DW.fix rfl rfl rfl (fun _ EQ => RV.indexAddr Ts25 rfl rfl hbx3 ⟨_, rfl⟩) ?_
              refine DW.fix rfl rfl rfl (fun _ EQ => RV.load1 Tk3 rfl (((H.grow EQ).own 1 rfl).sl.at_ hx3) rfl) ?_
              refine DW.fix rfl rfl rfl (fun _ EQ => RV.move rfl) ?_
              refine DW.fix rfl rfl rfl (fun _ EQ => RV.move rfl) ?_
              refine DW.fix rfl rfl rfl (fun _ EQ => RV.indexAddr Ts25 rfl rfl hbx4 (h_a1.addr_ hx4)) ?_
              refine DW.fix rfl rfl rfl (fun _ EQ => RV.load1 Tk3 rfl ((h_a1.at_ hx4).ext (R0.trans EQ)) rfl) ?_
              refine DW.fix rfl rfl rfl (fun _ EQ => RV.lss rfl rfl) ?_
              refine DW.fix rfl rfl rfl (fun _ EQ => RV.move rfl) ?_
              refine DW.fixYB rfl rfl rfl rfl rfl hq5 (fun _ EQ => RV.loadA [.slice A_a0_worth a0.worth.length c_a0_worth] Tk24 rfl ((H.grow EQ).blk 2 rfl).cells rfl rfl) ?_
              refine DW.fixYB rfl rfl rfl rfl rfl hq5 (fun _ EQ => RV.move rfl) ?_
              refine DW.fixYB rfl rfl rfl rfl rfl hq5 (fun _ EQ => RV.move rfl) ?_
              refine DW.soleYB rfl rfl rfl rfl rfl hq5 (OW.call Tc61 rfl (cut_open_ok (a0 := a0) (a1 := l3) (a2 := t25_1) (h_a0_worth.ext R0) (H.own 1 rfl).sl hr1) ?_)
              rintro _ w9 ⟨rfl, E4⟩
              refine ⟨_, rfl, fun _ => E4, ModX.ext E4, ?_⟩
              replace H := H.grow E4
              replace R0 := H.ext
              refine DW.fix rfl rfl rfl (fun _ EQ => RV.pickTB rfl hq5 rfl) ?_
              refine DW.nil (jK305 _ _ ⟨_, ?_, ⟨r1, F, rfl, H⟩⟩)
              exact ⟨rfl, rfl, rfl, rfl, (look_slice rfl (by first | rfl | (simp; done) | (simp; omega))), (look_slice rfl (by first | rfl | (simp; done) | (simp; omega))), rfl, rfl, rfl, rfl, trivial⟩
            ·
              replace F := ite_n hp5 F
              have hq5 := dec_f hp5
              refine CW.draw [] (fun _ => True) (.cons 0 1 (.cons 1 1 (.cons 2 1 (.cons 3 1 (.cons 4 1 (.cons 5 1 (.cons 6 1 (.cons 7 1 (.cons 8 1 (.cons 9 1 (.cons 10 1 (.cons 11 1 (.cons 12 1 (.cons 13 0 (.cons 14 1 .nil))))))))))))))) mixed (by kernel_rfl) fun w10 E5 => ?_
              replace H := H.grow E5
              replace R0 := H.ext
              refine DW.fix rfl rfl rfl (fun _ EQ => RV.move rfl) ?_
              refine DW.fix rfl rfl rfl (fun _ EQ => RV.move rfl) ?_
              refine DW.fix rfl rfl rfl (fun _ EQ => RV.indexAddr Ts25 rfl rfl hbx3 ⟨_, rfl⟩) ?_
              refine DW.fix rfl rfl rfl (fun _ EQ => RV.load1 Tk3 rfl (((H.grow EQ).own 1 rfl).sl.at_ hx3) rfl) ?_
              refine DW.fix rfl rfl rfl (fun _ EQ => RV.move rfl) ?_
              refine DW.fix rfl rfl rfl (fun _ EQ => RV.move rfl) ?_
              refine DW.fix rfl rfl rfl (fun _ EQ => RV.indexAddr Ts25 rfl rfl hbx4 (h_a1.addr_ hx4)) ?_
              refine DW.fix rfl rfl rfl (fun _ EQ => RV.load1 Tk3 rfl ((h_a1.at_ hx4).ext (R0.trans EQ)) rfl) ?_
              refine DW.fix rfl rfl rfl (fun _ EQ => RV.lss rfl rfl) ?_
              refine DW.fix rfl rfl rfl (fun _ EQ => RV.move rfl) ?_
              refine DW.fixNB rfl rfl rfl rfl rfl (ne_beq (v := false) hq5 rfl) ?_
              refine DW.fixNB rfl rfl rfl rfl rfl (ne_beq (v := false) hq5 rfl) ?_
              refine DW.fixNB rfl rfl rfl rfl rfl (ne_beq (v := false) hq5 rfl) ?_
              refine DW.soleNB rfl rfl rfl rfl rfl (ne_beq (v := false) hq5 rfl) ?_
              refine DW.fix rfl rfl rfl (fun _ EQ => RV.pickFB rfl hq5 rfl) ?_
              refine DW.nil (jK305 _ _ ⟨_, ?_, ⟨false, F, rfl, H⟩⟩)
              exact ⟨rfl, rfl, rfl, rfl, (look_slice rfl (by first | rfl | (simp; done) | (simp; omega))), (look_slice rfl (by first | rfl | (simp; done) | (simp; omega))), rfl, rfl, rfl, rfl, trivial⟩
        ·
          replace F := ite_n hp3 F
          have hq3 := dec_f hp3
          refine CW.condF rfl hq3 ?_
          refine CW.exit ?_
          subst hrec1
          refine ⟨mk1, Nat.lt_succ_self _, _, ?_, l2, l3, Al2, cl2, F, rfl, H⟩
          exact ⟨rfl, rfl, rfl, rfl, (look_slice rfl (by first | rfl | (simp; done) | (simp; omega))), (look_slice rfl (by first | rfl | (simp; done) | (simp; omega))), trivial⟩
  ·
    replace F := ite_n hp1 F
    have hq1 := dec_f hp1
    refine CW.condT rfl (not_t hq1) ?_
    refine CW.seq fun K19 hK19 => ?_
    refine CW.region ?_
    refine LW.pure rfl rfl (RV.move rfl) ?_
    refine LW.pure rfl rfl (RV.assign rfl) ?_
    refine LW.pure rfl rfl (RV.assign rfl) ?_
    refine LW.nil (hK19 _ _ ?_)
    refine CW.ret ?_
    obtain rfl := Option.some.inj F
    refine ⟨_, (ResOK.two rfl rfl), ?_⟩
    replace H := H.nilOwn 3 1
    replace R0 := H.ext
    replace H := H.pick (L' := [.own none 0 3 1 (List.map encN (([] : List Int)))]) [0] (by decide) rfl
    replace R0 := H.ext
    exact ⟨none, 0, (by first | rfl | (simp; done) | (simp; omega)), H⟩
end Go.D4

set_option linter.unusedVariables false
set_option linter.unusedSimpArgs false
namespace Go.D4
open Go.Tb Go.Proofs Go.RowKit
theorem Tz3 : tyZ Try.prog 3 = some (.int .i64 0) := by kernel_rfl
end Go.D4
