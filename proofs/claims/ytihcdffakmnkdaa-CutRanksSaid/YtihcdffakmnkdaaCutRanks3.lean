/- Lemmas and walks that the proof of this claim uses: D4m15, Tb22, D4p1, D4p2, D4p3, D4p4, D4p5, D4p6, D4p7, D4p8, D4p9, D4pA, D4pB, D4pC, D4q1, D4q5. -/
import Derived.Test.YtihcdffakmnkdaaCutRanks2
set_option linter.unusedVariables false
set_option linter.unusedSimpArgs false
namespace Go.D4
open Go.Tb Go.Proofs Go.RowKit
theorem KO87 : KeyOK Try.prog 87 ekArr6 eqArr6 :=
  KeyOK.agg (d := .array 6 3) (fun x => #[.int .i64 x.at0, .int .i64 x.at1, .int .i64 x.at2, .int .i64 x.at3, .int .i64 x.at4, .int .i64 x.at5]) (by kernel_rfl) (fun _ => rfl) (fun w em x => by kernel_rfl) (fun w x y => by
    obtain ⟨i, hi⟩ := Option.isSome_iff_exists.1 (show (Try.prog.info? 3).isSome = true by kernel_rfl)
    have hc : Try.prog.cellsOf 3 = 1 := by kernel_rfl
    have hu : Try.prog.underlying 3 = some (.int .i64) := by kernel_rfl
    rw [run_equalIn_array w 9999 _ _ (by kernel_rfl) hi, hc]
    have hr : List.range 6 = [0, 1, 2, 3, 4, 5] := rfl
    rw [hr]
    simp [Op.eqItems, part, run_equalIn_int, hu, eqArr6]
    repeat' split
    all_goals simp_all) (fun x y => by cases x; cases y; simp [eqArr6, and_assoc]) (fun x => by simp [Instr.sameBits])
theorem Tc50 : callable Try.prog 50 = true := by kernel_rfl
theorem Tc51 : callable Try.prog 51 = true := by kernel_rfl
theorem Tc52 : callable Try.prog 52 = true := by kernel_rfl
theorem Tc53 : callable Try.prog 53 = true := by kernel_rfl
theorem Tc54 : callable Try.prog 54 = true := by kernel_rfl
theorem Tc89 : callable Try.prog 89 = true := by kernel_rfl
theorem Tc90 : callable Try.prog 90 = true := by kernel_rfl
theorem Tm84 : tyM Try.prog 84 = some (87, 3) := by kernel_rfl
theorem Tz3 : tyZ Try.prog 3 = some (.int .i64 0) := by kernel_rfl
set_option maxRecDepth 20000 in
set_option maxHeartbeats 1000000 in
theorem ref04_Count_ok {a0 : Bog} {A_a0_worth : Option Addr} {c_a0_worth : Nat} {w : World} {res : Int × Int} (h_a0_worth : Sl2 w A_a0_worth c_a0_worth 1 encN a0.worth) (F : ref04_Count a0 = some res) : Calls Try.prog 50 #[.agg #[.slice A_a0_worth a0.worth.length c_a0_worth]] w (Rt w (.tuple #[.int .i64 res.1, .int .i64 res.2])) := by
  refine calls_of_cw (args := [.agg #[.slice A_a0_worth a0.worth.length c_a0_worth]]) Try.func50 rfl rfl rfl rfl ?_
  have H := Hp.start w
  have R0 := H.ext
  unfold ref04_Count at F
  refine CW.seq fun K1 hK1 => ?_
  refine CW.region ?_
  refine LW.go rfl rfl (OW.box rfl fun b1 w1 N1 => ?_)
  replace H := H.new N1 N1.blk
  replace R0 := H.ext
  refine LW.pure rfl rfl (RV.assign rfl) ?_
  refine LW.pure rfl rfl (RV.assign rfl) ?_
  refine LW.nil (hK1 _ _ ?_)
  refine CW.seq fun K2 hK2 => ?_
  obtain ⟨r1, hr1, F⟩ := bnd_some F
  refine CW.region ?_
  refine LW.pure rfl rfl (RV.loadA [.slice A_a0_worth a0.worth.length c_a0_worth] Tk24 rfl (H.blk 0 rfl).cells rfl rfl) ?_
  refine LW.go rfl rfl (OW.call Tc26 rfl (ref04_Validate_ok (a0 := a0) (h_a0_worth.ext R0) hr1) ?_)
  rintro _ w2 ⟨rfl, E1⟩
  refine ⟨_, rfl, ?_⟩
  replace H := H.grow E1
  replace R0 := H.ext
  refine LW.pure rfl rfl (RV.assign rfl) ?_
  refine LW.nil (hK2 _ _ ?_)
  refine CW.seq fun K3 hK3 => ?_
  refine CW.seq fun K4 hK4 => ?_
  refine CW.region ?_
  refine LW.pure rfl rfl (RV.move rfl) ?_
  refine LW.pure rfl rfl (RV.nei rfl rfl) ?_
  refine LW.nil (hK4 _ _ ?_)
  by_cases hp1 : r1 = 0
  ·
    replace F := ite_y hp1 F
    have hq1 := dec_t hp1
    refine CW.condF rfl (not_f hq1) ?_
    refine CW.skip (hK3 _ _ ?_)
    refine CW.seq fun K5 hK5 => ?_
    obtain ⟨r2, hr2, F⟩ := bnd_some F
    refine CW.region ?_
    refine LW.pure rfl rfl (RV.loadA [.slice A_a0_worth a0.worth.length c_a0_worth] Tk24 rfl (H.blk 0 rfl).cells rfl rfl) ?_
    refine LW.go rfl rfl (OW.call Tc82 rfl (ref04_all_ok (a0 := a0) (h_a0_worth.ext R0) hr2) ?_)
    rintro _ w3 ⟨A6_0, c6_0, hs6_0, rfl, E2⟩
    refine ⟨_, rfl, ?_⟩
    replace H : Hp w w3 [.tab A6_0 c6_0 25 hs6_0 3 1 (encM encN r2), .blk b1 24 [.slice A_a0_worth a0.worth.length c_a0_worth]] := H.append E2
    replace R0 := H.ext
    refine LW.pure rfl rfl (RV.len Ts22 rfl) ?_
    refine LW.pure rfl rfl (RV.assign rfl) ?_
    refine LW.pure rfl rfl (RV.assign rfl) ?_
    refine LW.nil (hK5 _ _ ?_)
    refine CW.ret ?_
    obtain rfl := Option.some.inj F
    refine ⟨_, (ResOK.two rfl rfl), ?_⟩
    refine ⟨(by first | rfl | simp), R0⟩
  ·
    replace F := ite_n hp1 F
    have hq1 := dec_f hp1
    refine CW.condT rfl (not_t hq1) ?_
    refine CW.seq fun K6 hK6 => ?_
    refine CW.region ?_
    refine LW.pure rfl rfl (RV.move rfl) ?_
    refine LW.pure rfl rfl (RV.assign rfl) ?_
    refine LW.pure rfl rfl (RV.assign rfl) ?_
    refine LW.nil (hK6 _ _ ?_)
    refine CW.ret ?_
    obtain rfl := Option.some.inj F
    refine ⟨_, (ResOK.two rfl rfl), ?_⟩
    refine ⟨(by first | rfl | simp), R0⟩
set_option maxRecDepth 20000 in
set_option maxHeartbeats 1000000 in
theorem cut_ranks_ok {a0 : Bog} {A_a0_worth : Option Addr} {c_a0_worth : Nat} {w : World} {res : (List (Arr6 × Int))} (h_a0_worth : Sl2 w A_a0_worth c_a0_worth 1 encN a0.worth) (F : cut_ranks a0 = some res) : Calls Try.prog 89 #[.agg #[.slice A_a0_worth a0.worth.length c_a0_worth]] w (fun e w' => ∃ (b1 : Nat), e = .returned (.map (some b1)) ∧ Hp w w' [.mp b1 (encMap ekArr6 ekI res)]) := by
  refine calls_of_cw (args := [.agg #[.slice A_a0_worth a0.worth.length c_a0_worth]]) Try.func89 rfl rfl rfl rfl ?_
  have H := Hp.start w
  have R0 := H.ext
  unfold cut_ranks at F
  refine CW.seq fun K1 hK1 => ?_
  refine CW.region ?_
  refine LW.go rfl rfl (OW.box rfl fun b2 w1 N1 => ?_)
  replace H := H.new N1 N1.blk
  replace R0 := H.ext
  refine LW.pure rfl rfl (RV.assign rfl) ?_
  refine LW.nil (hK1 _ _ ?_)
  refine CW.seq fun K2 hK2 => ?_
  refine CW.region ?_
  refine LW.go rfl rfl (OW.makeMap fun b3 w2 N2 M1 => ?_)
  replace H : Hp w w2 [.mp b3 (encMap ekArr6 ekI (([] : List (Arr6 × Int)))), .blk b2 24 [.slice A_a0_worth a0.worth.length c_a0_worth]] := H.newM N2 M1
  replace R0 := H.ext
  refine LW.pure rfl rfl (RV.assign rfl) ?_
  refine LW.nil (hK2 _ _ ?_)
  refine CW.seqJ (fun ρ wl1 => (∃ (m1 : List (Arr6 × Int)), cut_ranks_k1 m1 = some res ∧ ρ = [(2, .map none), (3, .map (some b3))] ∧ Hp w wl1 [.mp b3 (encMap ekArr6 ekI m1)])) ?_ ?_
  ·
    rintro _ wl1 ⟨m1, F, rfl, H⟩
    have R0 := H.ext
    unfold cut_ranks_k1 at F
    refine CW.seq fun K3 hK3 => ?_
    refine CW.region ?_
    refine LW.pure rfl rfl (RV.move rfl) ?_
    refine LW.pure rfl rfl (RV.assign rfl) ?_
    refine LW.nil (hK3 _ _ ?_)
    refine CW.ret ?_
    obtain rfl := Option.some.inj F
    refine ⟨_, (ResOK.one rfl), ?_⟩
    exact ⟨b3, (by first | rfl | (simp; done) | (simp; omega)), H⟩
  ·
    intro K4 hK4 jK47
    refine CW.seq fun K5 hK5 => ?_
    obtain ⟨r1, hr1, F⟩ := bnd_some F
    refine CW.region ?_
    refine LW.pure rfl rfl (RV.loadA [.slice A_a0_worth a0.worth.length c_a0_worth] Tk24 rfl (H.blk 1 rfl).cells rfl rfl) ?_
    refine LW.go rfl rfl (OW.call Tc88 rfl (cut_all_ok (a0 := a0) (h_a0_worth.ext R0) hr1) ?_)
    rintro _ w3 ⟨A5_0, c5_0, rfl, E1⟩
    refine ⟨_, rfl, ?_⟩
    replace H : Hp w w3 [.own A5_0 c5_0 87 6 (List.map encArr6 r1), .mp b3 (encMap ekArr6 ekI (([] : List (Arr6 × Int)))), .blk b2 24 [.slice A_a0_worth a0.worth.length c_a0_worth]] := H.append E1
    replace R0 := H.ext
    refine LW.pure rfl rfl (RV.len Ts82 rfl) ?_
    refine LW.pure rfl rfl (RV.move rfl) ?_
    refine LW.nil (hK5 _ _ ?_)
    refine CW.block ?_
    replace H := H.pick (L' := [.mp b3 (encMap ekArr6 ekI (([] : List (Arr6 × Int)))), .own A5_0 c5_0 87 6 (List.map encArr6 r1)]) [1, 0] (by decide) rfl
    replace R0 := H.ext
    refine CW.loop (fun meas ρ wl2 => ∃ (t10_1 : Int) (m2 : List (Arr6 × Int)), cut_ranks_L1 r1 meas t10_1 m2 = some res ∧ ρ = [(2, .map none), (3, .map (some b3)), (8, .slice A5_0 r1.length c5_0), (9, .int .i64 ((r1.length : Int))), (10, .int .i64 t10_1)] ∧ Hp w wl2 [.mp b3 (encMap ekArr6 ekI m2), .own A5_0 c5_0 87 6 (List.map encArr6 r1)]) FU ⟨_, ?_, ((0 : Int)), (([] : List (Arr6 × Int))), F, rfl, H⟩ ?_
    · exact ⟨rfl, rfl, (look_slice rfl (by first | rfl | (simp; done) | (simp; omega))), rfl, rfl, trivial⟩
    rintro mk1 _ wl2 ⟨t10_1, m2, F, rfl, H⟩
    have R0 := H.ext
    replace F := cut_ranks_L1_s F
    obtain ⟨mk1, rfl, F⟩ := F
    generalize hrec1 : cut_ranks_L1 r1 mk1 = rec1 at F
    unfold cut_ranks_B1 at F
    refine CW.seq fun K6 hK6 => ?_
    refine CW.region ?_
    refine LW.pure rfl rfl (RV.lss rfl rfl) ?_
    refine LW.nil (hK6 _ _ ?_)
    refine CW.seq fun K7 hK7 => ?_
    by_cases hp1 : t10_1 < ((r1.length : Int))
    ·
      replace F := ite_y hp1 F
      have hq1 := dec_t hp1
      refine CW.condT rfl hq1 ?_
      refine CW.skip (hK7 _ _ ?_)
      refine CW.seq fun K8 hK8 => ?_
      refine CW.block ?_
      refine CW.seq fun K9 hK9 => ?_
      obtain ⟨x1, hbx1, hx1, F⟩ := ix_some F
      refine CW.region ?_
      refine LW.pure rfl rfl (RV.move rfl) ?_
      refine LW.pure rfl rfl (RV.indexAddr Ts82 rfl rfl hbx1 ((H.own 1 rfl).sl.addr_ hx1)) ?_
      refine LW.pure rfl rfl (RV.loadA [.int .i64 x1.at0, .int .i64 x1.at1, .int .i64 x1.at2, .int .i64 x1.at3, .int .i64 x1.at4, .int .i64 x1.at5] Tk87 rfl ((H.own 1 rfl).sl.at_ hx1) rfl rfl) ?_
      refine LW.go rfl rfl (OW.alloc Tz87 fun b4 w4 N3 => ?_)
      replace H := H.made' (k := 1) (t := 87) (enc := encN) (l := ([0, 0, 0, 0, 0, 0] : List Int)) N3 N3.blk (fun _ => rfl) rfl (by first | decide | (simp; done) | (simp; omega))
      replace R0 := H.ext
      refine LW.pure rfl rfl (RV.assign rfl) ?_
      refine LW.go rfl rfl (OW.storeArr (l' := ([x1.at0, x1.at1, x1.at2, x1.at3, x1.at4, x1.at5] : List Int)) (vs := [.int .i64 x1.at0, .int .i64 x1.at1, .int .i64 x1.at2, .int .i64 x1.at3, .int .i64 x1.at4, .int .i64 x1.at5]) Tk87 rfl rfl (H.own 0 rfl) (fun _ => rfl) (by first | rfl | omega | (simp; done) | (simp; omega)) rfl rfl rfl rfl fun w5 M2 O1 => ?_)
      replace H : Hp w w5 [.own (some ⟨b4, 0, none⟩) 6 87 1 (List.map encN (([x1.at0, x1.at1, x1.at2, x1.at3, x1.at4, x1.at5] : List Int))), .mp b3 (encMap ekArr6 ekI m2), .own A5_0 c5_0 87 6 (List.map encArr6 r1)] := H.mod 0 rfl M2 O1 (.inl rfl)
      replace R0 := H.ext
      refine LW.nil (hK9 _ _ ?_)
      obtain ⟨hg1, F⟩ := gd_some F
      obtain ⟨x2, hbx2, hx2, F⟩ := ix_some F
      obtain ⟨x3, hbx3, hx3, F⟩ := ix_some F
      obtain ⟨x4, hbx4, hx4, F⟩ := ix_some F
      obtain ⟨x5, hbx5, hx5, F⟩ := ix_some F
      obtain ⟨x6, hbx6, hx6, F⟩ := ix_some F
      obtain ⟨x7, hbx7, hx7, F⟩ := ix_some F
      refine CW.region ?_
      refine LW.pure rfl rfl (RV.move rfl) ?_
      have hL1 := list6 hg1 hx2 hx3 hx4 hx5 hx6 hx7
      refine LW.pure rfl rfl (RV.loadA (vs := [.int .i64 x2, .int .i64 x3, .int .i64 x4, .int .i64 x5, .int .i64 x6, .int .i64 x7]) [.int .i64 x2, .int .i64 x3, .int .i64 x4, .int .i64 x5, .int .i64 x6, .int .i64 x7] Tk87 rfl (fun j v hj => (H.own 0 rfl).flat j v (by rw [hL1]; exact hj)) rfl rfl) ?_
      refine LW.pure rfl rfl (RV.move rfl) ?_
      refine LW.go rfl rfl (OW.updateM (ek := ekArr6) (ev' := ekI) (eq := eqArr6) (m := m2) ((⟨x2, x3, x4, x5, x6, x7⟩ : Arr6)) t10_1 KO87 Tm84 rfl rfl rfl (H.mp 1 rfl) fun w6 M3 O2 => ?_)
      replace H : Hp w w6 [.own (some ⟨b4, 0, none⟩) 6 87 1 (List.map encN (([x1.at0, x1.at1, x1.at2, x1.at3, x1.at4, x1.at5] : List Int))), .mp b3 (encMap ekArr6 ekI ((mset eqArr6 m2 ((⟨x2, x3, x4, x5, x6, x7⟩ : Arr6)) t10_1))), .own A5_0 c5_0 87 6 (List.map encArr6 r1)] := H.setM 1 rfl M3 O2
      replace R0 := H.ext
      refine LW.nil (hK8 _ _ ?_)
      obtain ⟨hg2, F⟩ := gd_some F
      refine CW.region ?_
      refine LW.pure rfl rfl (RV.add rfl rfl hg2) ?_
      refine LW.pure rfl rfl (RV.move rfl) ?_
      refine LW.nil ?_
      replace H := H.pick (L' := [.mp b3 (encMap ekArr6 ekI ((mset eqArr6 m2 ((⟨x2, x3, x4, x5, x6, x7⟩ : Arr6)) t10_1))), .own A5_0 c5_0 87 6 (List.map encArr6 r1)]) [1, 2] (by decide) rfl
      replace R0 := H.ext
      subst hrec1
      refine ⟨mk1, Nat.lt_succ_self _, _, ?_, (t10_1 + 1), ((mset eqArr6 m2 ((⟨x2, x3, x4, x5, x6, x7⟩ : Arr6)) t10_1)), F, rfl, H⟩
      exact ⟨rfl, rfl, (look_slice rfl (by first | rfl | (simp; done) | (simp; omega))), rfl, rfl, trivial⟩
    ·
      replace F := ite_n hp1 F
      have hq1 := dec_f hp1
      refine CW.condF rfl hq1 ?_
      replace H := H.pick (L' := [.mp b3 (encMap ekArr6 ekI m2)]) [0] (by decide) rfl
      replace R0 := H.ext
      refine CW.exit (jK47 _ _ ⟨_, ?_, ⟨m2, F, rfl, H⟩⟩)
      exact ⟨rfl, rfl, trivial⟩
set_option maxRecDepth 20000 in
set_option maxHeartbeats 1000000 in
theorem cut_of_ok {a0 : List Int} {A_a0 : Option Addr} {c_a0 : Nat} {w : World} {res : Arr6} (h_a0 : Sl w A_a0 c_a0 1 (a0.map encN)) (F : cut_of a0 = some res) : Calls Try.prog 90 #[.slice A_a0 a0.length c_a0] w (Rt w (.agg #[.int .i64 res.at0, .int .i64 res.at1, .int .i64 res.at2, .int .i64 res.at3, .int .i64 res.at4, .int .i64 res.at5])) := by
  refine calls_of_cw (args := [.slice A_a0 a0.length c_a0]) Try.func90 rfl rfl rfl rfl ?_
  have H := Hp.start w
  have R0 := H.ext
  unfold cut_of at F
  refine CW.seq fun K1 hK1 => ?_
  refine CW.region ?_
  refine LW.go rfl rfl (OW.alloc Tz87 fun b1 w1 N1 => ?_)
  replace H := H.made' (k := 1) (t := 87) (enc := encN) (l := ([0, 0, 0, 0, 0, 0] : List Int)) N1 N1.blk (fun _ => rfl) rfl (by first | decide | (simp; done) | (simp; omega))
  replace R0 := H.ext
  refine LW.nil (hK1 _ _ ?_)
  refine CW.seq fun K2 hK2 => ?_
  refine CW.region ?_
  refine LW.go rfl rfl (OW.alloc Tz87 fun b2 w2 N2 => ?_)
  replace H := H.made' (k := 1) (t := 87) (enc := encN) (l := ([0, 0, 0, 0, 0, 0] : List Int)) N2 N2.blk (fun _ => rfl) rfl (by first | decide | (simp; done) | (simp; omega))
  replace R0 := H.ext
  refine LW.nil (hK2 _ _ ?_)
  refine CW.seq fun K3 hK3 => ?_
  refine CW.region ?_
  refine LW.pure rfl rfl (RV.arrAll (l := ([0, 0, 0, 0, 0, 0] : List Int)) Ta87 rfl  (by first | rfl | omega | (simp; done) | (simp; omega))) ?_
  refine LW.pure rfl rfl (RV.move rfl) ?_
  refine LW.go rfl rfl (OW.copyO (enc := encN) (l := ([0, 0, 0, 0, 0, 0] : List Int)) (ys := a0) Ts25 rfl rfl (H.own 0 rfl) (by first | rfl | (simp; done) | (simp; omega)) (h_a0.ext R0) (by first | rfl | (simp; done) | (simp; omega)) (fun _ => rfl) (fun _ => rfl) fun w3 M1 O1 => ?_)
  replace H : Hp w w3 [.own (some ⟨b2, 0, none⟩) 6 87 1 (List.map encN ((List.take (([0, 0, 0, 0, 0, 0] : List Int)).length a0 ++ List.drop a0.length (([0, 0, 0, 0, 0, 0] : List Int))))), .own (some ⟨b1, 0, none⟩) 6 87 1 (List.map encN (([0, 0, 0, 0, 0, 0] : List Int)))] := H.mod 0 rfl M1 O1 (.inl rfl)
  replace R0 := H.ext
  refine LW.nil (hK3 _ _ ?_)
  refine CW.seq fun K4 hK4 => ?_
  obtain ⟨hg1, F⟩ := gd_some F
  obtain ⟨x1, hbx1, hx1, F⟩ := ix_some F
  obtain ⟨x2, hbx2, hx2, F⟩ := ix_some F
  obtain ⟨x3, hbx3, hx3, F⟩ := ix_some F
  obtain ⟨x4, hbx4, hx4, F⟩ := ix_some F
  obtain ⟨x5, hbx5, hx5, F⟩ := ix_some F
  obtain ⟨x6, hbx6, hx6, F⟩ := ix_some F
  refine CW.region ?_
  have hL1 := list6 hg1 hx1 hx2 hx3 hx4 hx5 hx6
  refine LW.pure rfl rfl (RV.loadA (vs := [.int .i64 x1, .int .i64 x2, .int .i64 x3, .int .i64 x4, .int .i64 x5, .int .i64 x6]) [.int .i64 x1, .int .i64 x2, .int .i64 x3, .int .i64 x4, .int .i64 x5, .int .i64 x6] Tk87 rfl (fun j v hj => (H.own 0 rfl).flat j v (by rw [hL1]; exact hj)) rfl rfl) ?_
  refine LW.go rfl rfl (OW.storeArr (l' := ([x1, x2, x3, x4, x5, x6] : List Int)) (vs := [.int .i64 x1, .int .i64 x2, .int .i64 x3, .int .i64 x4, .int .i64 x5, .int .i64 x6]) Tk87 rfl rfl (H.own 1 rfl) (fun _ => rfl) (by first | rfl | omega | (simp; done) | (simp; omega)) rfl rfl rfl rfl fun w4 M2 O2 => ?_)
  replace H : Hp w w4 [.own (some ⟨b2, 0, none⟩) 6 87 1 (List.map encN ((List.take (([0, 0, 0, 0, 0, 0] : List Int)).length a0 ++ List.drop a0.length (([0, 0, 0, 0, 0, 0] : List Int))))), .own (some ⟨b1, 0, none⟩) 6 87 1 (List.map encN (([x1, x2, x3, x4, x5, x6] : List Int)))] := H.mod 1 rfl M2 O2 (.inl rfl)
  replace R0 := H.ext
  refine LW.nil (hK4 _ _ ?_)
  refine CW.ret ?_
  obtain ⟨hg2, F⟩ := gd_some F
  obtain ⟨x7, hbx7, hx7, F⟩ := ix_some F
  obtain ⟨x8, hbx8, hx8, F⟩ := ix_some F
  obtain ⟨x9, hbx9, hx9, F⟩ := ix_some F
  obtain ⟨x10, hbx10, hx10, F⟩ := ix_some F
  obtain ⟨x11, hbx11, hx11, F⟩ := ix_some F
  obtain ⟨x12, hbx12, hx12, F⟩ := ix_some F
  have hL2 := list6 hg2 hx7 hx8 hx9 hx10 hx11 hx12
  obtain rfl := Option.some.inj F
  refine ⟨_, (ResOK.cell1 ⟨_, rfl, run_loadVar_agg (vs := [.int .i64 x7, .int .i64 x8, .int .i64 x9, .int .i64 x10, .int .i64 x11, .int .i64 x12]) (us := [.int .i64 x7, .int .i64 x8, .int .i64 x9, .int .i64 x10, .int .i64 x11, .int .i64 x12]) Tk87 (fun j v hj => (H.own 1 rfl).flat j v (by rw [hL2]; exact hj)) rfl rfl⟩), ?_⟩
  refine ⟨(by first | rfl | simp), R0⟩
set_option maxRecDepth 20000 in
set_option maxHeartbeats 1000000 in
theorem cut_Rank_ok {a0 : Bog} {a1 : List Int} {A_a0_worth : Option Addr} {c_a0_worth : Nat} {A_a1 : Option Addr} {c_a1 : Nat} {w : World} {res : Int × Int} (h_a0_worth : Sl2 w A_a0_worth c_a0_worth 1 encN a0.worth) (h_a1 : Sl w A_a1 c_a1 1 (a1.map encN)) (F : cut_Rank a0 a1 = some res) : Calls Try.prog 51 #[.agg #[.slice A_a0_worth a0.worth.length c_a0_worth], .slice A_a1 a1.length c_a1] w (Rt w (.tuple #[.int .i64 res.1, .int .i64 res.2])) := by
  refine calls_of_cw (args := [.agg #[.slice A_a0_worth a0.worth.length c_a0_worth], .slice A_a1 a1.length c_a1]) Try.func51 rfl rfl rfl rfl ?_
  have H := Hp.start w
  have R0 := H.ext
  unfold cut_Rank at F
  refine CW.seq fun K1 hK1 => ?_
  refine CW.region ?_
  refine LW.go rfl rfl (OW.box rfl fun b1 w1 N1 => ?_)
  replace H := H.new N1 N1.blk
  replace R0 := H.ext
  refine LW.pure rfl rfl (RV.assign rfl) ?_
  refine LW.pure rfl rfl (RV.assign rfl) ?_
  refine LW.nil (hK1 _ _ ?_)
  refine CW.seq fun K2 hK2 => ?_
  refine CW.seq fun K3 hK3 => ?_
  obtain ⟨r1, hr1, F⟩ := bnd_some F
  refine CW.region ?_
  refine LW.pure rfl rfl (RV.loadA [.slice A_a0_worth a0.worth.length c_a0_worth] Tk24 rfl (H.blk 0 rfl).cells rfl rfl) ?_
  refine LW.pure rfl rfl (RV.move rfl) ?_
  refine LW.go rfl rfl (OW.call Tc22 rfl (cut_CheckHollow_ok (a0 := a0) (a1 := a1) (h_a0_worth.ext R0) (h_a1.ext R0) hr1) ?_)
  rintro _ w2 ⟨rfl, E1⟩
  refine ⟨_, rfl, ?_⟩
  replace H := H.grow E1
  replace R0 := H.ext
  refine LW.pure rfl rfl (RV.assign rfl) ?_
  refine LW.nil (hK3 _ _ ?_)
  refine CW.seq fun K4 hK4 => ?_
  refine CW.region ?_
  refine LW.pure rfl rfl (RV.move rfl) ?_
  refine LW.pure rfl rfl (RV.nei rfl rfl) ?_
  refine LW.nil (hK4 _ _ ?_)
  by_cases hp1 : r1 = 0
  ·
    replace F := ite_y hp1 F
    have hq1 := dec_t hp1
    refine CW.condF rfl (not_f hq1) ?_
    refine CW.skip (hK2 _ _ ?_)
    refine CW.seq fun K5 hK5 => ?_
    obtain ⟨r2, hr2, F⟩ := bnd_some F
    obtain ⟨r3, hr3, F⟩ := bnd_some F
    refine CW.region ?_
    refine LW.pure rfl rfl (RV.loadA [.slice A_a0_worth a0.worth.length c_a0_worth] Tk24 rfl (H.blk 0 rfl).cells rfl rfl) ?_
    refine LW.go rfl rfl (OW.call Tc89 rfl (cut_ranks_ok (a0 := a0) (h_a0_worth.ext R0) hr2) ?_)
    rintro _ w3 ⟨b8_0, rfl, E2⟩
    refine ⟨_, rfl, ?_⟩
    replace H : Hp w w3 [.mp b8_0 (encMap ekArr6 ekI r2), .blk b1 24 [.slice A_a0_worth a0.worth.length c_a0_worth]] := H.append E2
    replace R0 := H.ext
    refine LW.pure rfl rfl (RV.move rfl) ?_
    refine LW.go rfl rfl (OW.call Tc90 rfl (cut_of_ok (a0 := a1) (h_a1.ext R0) hr3) ?_)
    rintro _ w4 ⟨rfl, E3⟩
    refine ⟨_, rfl, ?_⟩
    replace H := H.grow E3
    replace R0 := H.ext
    refine LW.pure rfl rfl (RV.lookupM (ek := ekArr6) (ev' := ekI) (eq := eqArr6) (m := r2) r3 0 KO87 Tm84 Tz3 rfl rfl (H.mp 0 rfl)) ?_
    refine LW.pure rfl rfl (RV.assign rfl) ?_
    refine LW.pure rfl rfl (RV.assign rfl) ?_
    refine LW.nil (hK5 _ _ ?_)
    refine CW.ret ?_
    obtain rfl := Option.some.inj F
    refine ⟨_, (ResOK.two rfl rfl), ?_⟩
    refine ⟨(by first | rfl | simp), R0⟩
  ·
    replace F := ite_n hp1 F
    have hq1 := dec_f hp1
    refine CW.condT rfl (not_t hq1) ?_
    refine CW.seq fun K6 hK6 => ?_
    refine CW.region ?_
    refine LW.pure rfl rfl (RV.move rfl) ?_
    refine LW.pure rfl rfl (RV.assign rfl) ?_
    refine LW.pure rfl rfl (RV.assign rfl) ?_
    refine LW.nil (hK6 _ _ ?_)
    refine CW.ret ?_
    obtain rfl := Option.some.inj F
    refine ⟨_, (ResOK.two rfl rfl), ?_⟩
    refine ⟨(by first | rfl | simp), R0⟩
set_option maxRecDepth 20000 in
set_option maxHeartbeats 1000000 in
theorem ref04_Rank_ok {a0 : Bog} {a1 : List Int} {A_a0_worth : Option Addr} {c_a0_worth : Nat} {A_a1 : Option Addr} {c_a1 : Nat} {w : World} {res : Int × Int} (h_a0_worth : Sl2 w A_a0_worth c_a0_worth 1 encN a0.worth) (h_a1 : Sl w A_a1 c_a1 1 (a1.map encN)) (F : ref04_Rank a0 a1 = some res) : Calls Try.prog 52 #[.agg #[.slice A_a0_worth a0.worth.length c_a0_worth], .slice A_a1 a1.length c_a1] w (Rt w (.tuple #[.int .i64 res.1, .int .i64 res.2])) := by
  refine calls_of_cw (args := [.agg #[.slice A_a0_worth a0.worth.length c_a0_worth], .slice A_a1 a1.length c_a1]) Try.func52 rfl rfl rfl rfl ?_
  have H := Hp.start w
  have R0 := H.ext
  unfold ref04_Rank at F
  refine CW.seq fun K1 hK1 => ?_
  refine CW.region ?_
  refine LW.go rfl rfl (OW.box rfl fun b1 w1 N1 => ?_)
  replace H := H.new N1 N1.blk
  replace R0 := H.ext
  refine LW.pure rfl rfl (RV.assign rfl) ?_
  refine LW.pure rfl rfl (RV.assign rfl) ?_
  refine LW.nil (hK1 _ _ ?_)
  refine CW.seq fun K2 hK2 => ?_
  obtain ⟨r3, hr3, F⟩ := bnd_some F
  refine CW.region ?_
  refine LW.pure rfl rfl (RV.loadA [.slice A_a0_worth a0.worth.length c_a0_worth] Tk24 rfl (H.blk 0 rfl).cells rfl rfl) ?_
  refine LW.pure rfl rfl (RV.move rfl) ?_
  refine LW.go rfl rfl (OW.call Tc27 rfl (ref04_CheckHollow_ok (a0 := a0) (a1 := a1) (h_a0_worth.ext R0) (h_a1.ext R0) hr3) ?_)
  rintro _ w2 ⟨rfl, E1⟩
  refine ⟨_, rfl, ?_⟩
  replace H := H.grow E1
  replace R0 := H.ext
  refine LW.pure rfl rfl (RV.assign rfl) ?_
  refine LW.nil (hK2 _ _ ?_)
  refine CW.seq fun K3 hK3 => ?_
  refine CW.seq fun K4 hK4 => ?_
  refine CW.region ?_
  refine LW.pure rfl rfl (RV.move rfl) ?_
  refine LW.pure rfl rfl (RV.nei rfl rfl) ?_
  refine LW.nil (hK4 _ _ ?_)
  by_cases hp1 : r3 = 0
  ·
    replace F := ite_y hp1 F
    have hq1 := dec_t hp1
    refine CW.condF rfl (not_f hq1) ?_
    refine CW.skip (hK3 _ _ ?_)
    refine CW.seq fun K5 hK5 => ?_
    obtain ⟨r1, hr1, F⟩ := bnd_some F
    refine CW.region ?_
    refine LW.pure rfl rfl (RV.loadA [.slice A_a0_worth a0.worth.length c_a0_worth] Tk24 rfl (H.blk 0 rfl).cells rfl rfl) ?_
    refine LW.go rfl rfl (OW.call Tc82 rfl (ref04_all_ok (a0 := a0) (h_a0_worth.ext R0) hr1) ?_)
    rintro _ w3 ⟨A12_0, c12_0, hs12_0, rfl, E2⟩
    refine ⟨_, rfl, ?_⟩
    replace H : Hp w w3 [.tab A12_0 c12_0 25 hs12_0 3 1 (encM encN r1), .blk b1 24 [.slice A_a0_worth a0.worth.length c_a0_worth]] := H.append E2
    replace R0 := H.ext
    refine LW.pure rfl rfl (RV.assign rfl) ?_
    refine LW.nil (hK5 _ _ ?_)
    refine CW.seq fun K6 hK6 => ?_
    refine CW.region ?_
    refine LW.pure rfl rfl (RV.assign rfl) ?_
    refine LW.nil (hK6 _ _ ?_)
    refine CW.seqJ (fun ρ wl1 => (∃ (t8_1 : Int), ref04_Rank_k1 t8_1 = some res ∧ ρ = [(4, .int .i64 0), (5, .int .i64 0), (8, .int .i64 t8_1)] ∧ Hp w wl1 [])) ?_ ?_
    ·
      rintro _ wl1 ⟨t8_1, F, rfl, H⟩
      have R0 := H.ext
      unfold ref04_Rank_k1 at F
      refine CW.seq fun K7 hK7 => ?_
      refine CW.region ?_
      refine LW.pure rfl rfl (RV.move rfl) ?_
      refine LW.pure rfl rfl (RV.assign rfl) ?_
      refine LW.pure rfl rfl (RV.assign rfl) ?_
      refine LW.nil (hK7 _ _ ?_)
      refine CW.ret ?_
      obtain rfl := Option.some.inj F
      refine ⟨_, (ResOK.two rfl rfl), ?_⟩
      refine ⟨(by first | rfl | simp), R0⟩
    ·
      intro K8 hK8 jK35
      refine CW.block ?_
      replace H := H.pick (L' := [.tab A12_0 c12_0 25 hs12_0 3 1 (encM encN r1)]) [0] (by decide) rfl
      replace R0 := H.ext
      refine CW.loop (fun meas ρ wl2 => ∃ (t8_2 : Int), ref04_Rank_L1 a1 r1 meas t8_2 = some res ∧ ρ = [(1, .slice A_a1 a1.length c_a1), (4, .int .i64 0), (5, .int .i64 0), (7, .slice A12_0 r1.length c12_0), (8, .int .i64 t8_2)] ∧ Hp w wl2 [.tab A12_0 c12_0 25 hs12_0 3 1 (encM encN r1)]) FU ⟨_, ?_, ((0 : Int)), F, rfl, H⟩ ?_
      · exact ⟨rfl, rfl, rfl, (look_slice rfl (by first | rfl | (simp; done) | (simp; omega))), rfl, trivial⟩
      rintro mk1 _ wl2 ⟨t8_2, F, rfl, H⟩
      have R0 := H.ext
      replace F := ref04_Rank_L1_s F
      obtain ⟨mk1, rfl, F⟩ := F
      generalize hrec1 : ref04_Rank_L1 a1 r1 mk1 = rec1 at F
      unfold ref04_Rank_B1 at F
      refine CW.seq fun K9 hK9 => ?_
      refine CW.seq fun K10 hK10 => ?_
      obtain ⟨x1, hbx1, hx1, F⟩ := ix_some F
      obtain ⟨r2, hr2, F⟩ := bnd_some F
      refine CW.region ?_
      refine LW.pure rfl rfl (RV.move rfl) ?_
      refine LW.pure rfl rfl (RV.move rfl) ?_
      obtain ⟨B1, e1, hh1⟩ := (H.tab 0 rfl).hd hx1
      refine LW.pure rfl rfl (RV.indexAddr Ts22 rfl rfl hbx1 ((H.tab 0 rfl).addr_ hx1)) ?_
      refine LW.pure rfl rfl (RV.load1 Tk25 rfl ((H.tab 0 rfl).cell hx1 hh1) rfl) ?_
      refine LW.pure rfl rfl (RV.move rfl) ?_
      refine LW.go rfl rfl (OW.call Tc21 rfl (ref04_SameInts_ok (a0 := x1) (a1 := a1) ((H.tab 0 rfl).rowO hx1 hh1).sl (h_a1.ext R0) hr2) ?_)
      rintro _ w4 ⟨rfl, E3⟩
      refine ⟨_, rfl, ?_⟩
      replace H := H.grow E3
      replace R0 := H.ext
      refine LW.pure rfl rfl (RV.not rfl) ?_
      refine LW.nil (hK10 _ _ ?_)
      by_cases hp2 : r2 = true
      ·
        replace F := ite_y hp2 F
        have hq2 : r2 = true := hp2
        refine CW.condF rfl (not_f hq2) ?_
        replace H := H.pick (L' := []) [] (by decide) rfl
        replace R0 := H.ext
        refine CW.exit (jK35 _ _ ⟨_, ?_, ⟨t8_2, F, rfl, H⟩⟩)
        exact ⟨rfl, rfl, rfl, trivial⟩
      ·
        replace F := ite_n hp2 F
        have hq2 : r2 = false := raw_f hp2
        refine CW.condT rfl (not_t hq2) ?_
        refine CW.skip (hK9 _ _ ?_)
        refine CW.block ?_
        obtain ⟨hg1, F⟩ := gd_some F
        refine CW.region ?_
        refine LW.pure rfl rfl (RV.move rfl) ?_
        refine LW.pure rfl rfl (RV.add rfl rfl hg1) ?_
        refine LW.pure rfl rfl (RV.assign rfl) ?_
        refine LW.nil ?_
        subst hrec1
        refine ⟨mk1, Nat.lt_succ_self _, _, ?_, (t8_2 + 1), F, rfl, H⟩
        exact ⟨rfl, rfl, rfl, (look_slice rfl (by first | rfl | (simp; done) | (simp; omega))), rfl, trivial⟩
  ·
    replace F := ite_n hp1 F
    have hq1 := dec_f hp1
    refine CW.condT rfl (not_t hq1) ?_
    refine CW.seq fun K11 hK11 => ?_
    refine CW.region ?_
    refine LW.pure rfl rfl (RV.move rfl) ?_
    refine LW.pure rfl rfl (RV.assign rfl) ?_
    refine LW.pure rfl rfl (RV.assign rfl) ?_
    refine LW.nil (hK11 _ _ ?_)
    refine CW.ret ?_
    obtain rfl := Option.some.inj F
    refine ⟨_, (ResOK.two rfl rfl), ?_⟩
    refine ⟨(by first | rfl | simp), R0⟩
set_option maxRecDepth 20000 in
set_option maxHeartbeats 1000000 in
theorem cut_Unrank_ok {a0 : Bog} {a1 : Int} {A_a0_worth : Option Addr} {c_a0_worth : Nat} {w : World} {res : (List Int) × Int} (h_a0_worth : Sl2 w A_a0_worth c_a0_worth 1 encN a0.worth) (F : cut_Unrank a0 a1 = some res) : Calls Try.prog 53 #[.agg #[.slice A_a0_worth a0.worth.length c_a0_worth], .int .i64 a1] w (fun e w' => ∃ (A0 : Option Addr) (c0 : Nat), e = .returned (.tuple #[.slice A0 res.1.length c0, .int .i64 res.2]) ∧ Hp w w' [.own A0 c0 3 1 (List.map encN res.1)]) := by
  refine calls_of_cw (args := [.agg #[.slice A_a0_worth a0.worth.length c_a0_worth], .int .i64 a1]) Try.func53 rfl rfl rfl rfl ?_
  have H := Hp.start w
  have R0 := H.ext
  unfold cut_Unrank at F
  refine CW.seq fun K1 hK1 => ?_
  refine CW.region ?_
  refine LW.go rfl rfl (OW.box rfl fun b1 w1 N1 => ?_)
  replace H := H.new N1 N1.blk
  replace R0 := H.ext
  refine LW.pure rfl rfl (RV.assign rfl) ?_
  refine LW.pure rfl rfl (RV.assign rfl) ?_
  refine LW.nil (hK1 _ _ ?_)
  refine CW.seq fun K2 hK2 => ?_
  refine CW.seq fun K3 hK3 => ?_
  obtain ⟨r1, hr1, F⟩ := bnd_some F
  refine CW.region ?_
  refine LW.pure rfl rfl (RV.loadA [.slice A_a0_worth a0.worth.length c_a0_worth] Tk24 rfl (H.blk 0 rfl).cells rfl rfl) ?_
  refine LW.go rfl rfl (OW.call Tc25 rfl (cut_Validate_ok (a0 := a0) (h_a0_worth.ext R0) hr1) ?_)
  rintro _ w2 ⟨rfl, E1⟩
  refine ⟨_, rfl, ?_⟩
  replace H := H.grow E1
  replace R0 := H.ext
  refine LW.pure rfl rfl (RV.assign rfl) ?_
  refine LW.nil (hK3 _ _ ?_)
  refine CW.seq fun K4 hK4 => ?_
  refine CW.region ?_
  refine LW.pure rfl rfl (RV.move rfl) ?_
  refine LW.pure rfl rfl (RV.nei rfl rfl) ?_
  refine LW.nil (hK4 _ _ ?_)
  by_cases hp1 : r1 = 0
  ·
    replace F := ite_y hp1 F
    have hq1 := dec_t hp1
    refine CW.condF rfl (not_f hq1) ?_
    refine CW.skip (hK2 _ _ ?_)
    refine CW.seq fun K5 hK5 => ?_
    obtain ⟨r2, hr2, F⟩ := bnd_some F
    refine CW.region ?_
    refine LW.pure rfl rfl (RV.loadA [.slice A_a0_worth a0.worth.length c_a0_worth] Tk24 rfl (H.blk 0 rfl).cells rfl rfl) ?_
    refine LW.go rfl rfl (OW.call Tc88 rfl (cut_all_ok (a0 := a0) (h_a0_worth.ext R0) hr2) ?_)
    rintro _ w3 ⟨A8_0, c8_0, rfl, E2⟩
    refine ⟨_, rfl, ?_⟩
    replace H : Hp w w3 [.own A8_0 c8_0 87 6 (List.map encArr6 r2), .blk b1 24 [.slice A_a0_worth a0.worth.length c_a0_worth]] := H.append E2
    replace R0 := H.ext
    refine LW.pure rfl rfl (RV.assign rfl) ?_
    refine LW.nil (hK5 _ _ ?_)
    refine CW.seq fun K6 hK6 => ?_
    refine CW.seq fun K7 hK7 => ?_
    obtain ⟨hg1, F⟩ := gd_some F
    obtain ⟨r3, hr3, F⟩ := bnd_some F
    refine CW.region ?_
    refine LW.pure rfl rfl (RV.move rfl) ?_
    refine LW.pure rfl rfl (RV.move rfl) ?_
    refine LW.pure rfl rfl (RV.len Ts82 rfl) ?_
    refine LW.pure rfl rfl (RV.sub rfl rfl hg1) ?_
    refine LW.go rfl rfl (OW.call Tc67 rfl (cut_from_ok (a0 := a1) (a1 := (0 : Int)) (a2 := ((r2.length : Int)) - 1) hr3) ?_)
    rintro _ w4 ⟨rfl, E3⟩
    refine ⟨_, rfl, ?_⟩
    replace H := H.grow E3
    replace R0 := H.ext
    refine LW.pure rfl rfl (RV.not rfl) ?_
    refine LW.nil (hK7 _ _ ?_)
    by_cases hp2 : r3 = true
    ·
      replace F := ite_y hp2 F
      have hq2 : r3 = true := hp2
      refine CW.condF rfl (not_f hq2) ?_
      refine CW.skip (hK6 _ _ ?_)
      refine CW.seq fun K8 hK8 => ?_
      obtain ⟨x1, hbx1, hx1, F⟩ := ix_some F
      obtain ⟨r4, hr4, F⟩ := bnd_some F
      refine CW.draw [] (fun _ => True) (.cons 0 1 (.cons 1 1 (.cons 2 1 (.cons 3 1 (.cons 4 1 (.cons 5 0 (.cons 6 1 (.cons 7 1 .nil)))))))) mixed (by kernel_rfl) fun w5 E4 => ?_
      replace H := H.grow E4
      replace R0 := H.ext
      refine DW.fix rfl rfl rfl (fun _ EQ => RV.move rfl) ?_
      refine DW.fix rfl rfl rfl (fun _ EQ => RV.move rfl) ?_
      refine DW.fix rfl rfl rfl (fun _ EQ => RV.indexAddr Ts82 rfl rfl hbx1 ((H.own 0 rfl).sl.addr_ hx1)) ?_
      refine DW.fix rfl rfl rfl (fun _ EQ => RV.loadA [.int .i64 x1.at0, .int .i64 x1.at1, .int .i64 x1.at2, .int .i64 x1.at3, .int .i64 x1.at4, .int .i64 x1.at5] Tk87 rfl (((H.grow EQ).own 0 rfl).sl.at_ hx1) rfl rfl) ?_
      refine DW.fix rfl rfl rfl (fun _ EQ => RV.loadA [.slice A_a0_worth a0.worth.length c_a0_worth] Tk24 rfl ((H.grow EQ).blk 1 rfl).cells rfl rfl) ?_
      refine DW.sole rfl rfl rfl (OW.call Tc91 rfl (cut_hollow_list_ok (a0 := x1) (a1 := a0) (h_a0_worth.ext R0) hr4) ?_)
      rintro _ w6 ⟨A12_0, c12_0, rfl, E5⟩
      refine ⟨_, rfl, fun _ => E5.ext, ModX.ext E5.ext, ?_⟩
      replace H : Hp w w6 [.own A12_0 c12_0 3 1 (List.map encN r4), .own A8_0 c8_0 87 6 (List.map encArr6 r2), .blk b1 24 [.slice A_a0_worth a0.worth.length c_a0_worth]] := H.append E5
      replace R0 := H.ext
      refine DW.fix rfl rfl rfl (fun _ EQ => RV.assign rfl) ?_
      refine DW.fix rfl rfl rfl (fun _ EQ => RV.assign rfl) ?_
      refine DW.nil (hK8 _ _ ?_)
      refine CW.ret ?_
      obtain rfl := Option.some.inj F
      refine ⟨_, (ResOK.two rfl rfl), ?_⟩
      replace H := H.pick (L' := [.own A12_0 c12_0 3 1 (List.map encN r4)]) [0] (by decide) rfl
      replace R0 := H.ext
      exact ⟨A12_0, c12_0, (by first | rfl | (simp; done) | (simp; omega)), H⟩
    ·
      replace F := ite_n hp2 F
      have hq2 : r3 = false := raw_f hp2
      refine CW.condT rfl (not_t hq2) ?_
      refine CW.seq fun K9 hK9 => ?_
      refine CW.region ?_
      refine LW.pure rfl rfl (RV.assign rfl) ?_
      refine LW.pure rfl rfl (RV.assign rfl) ?_
      refine LW.nil (hK9 _ _ ?_)
      refine CW.ret ?_
      obtain rfl := Option.some.inj F
      refine ⟨_, (ResOK.two rfl rfl), ?_⟩
      replace H := H.nilOwn 3 1
      replace R0 := H.ext
      replace H := H.pick (L' := [.own none 0 3 1 (List.map encN (([] : List Int)))]) [0] (by decide) rfl
      replace R0 := H.ext
      exact ⟨none, 0, (by first | rfl | (simp; done) | (simp; omega)), H⟩
  ·
    replace F := ite_n hp1 F
    have hq1 := dec_f hp1
    refine CW.condT rfl (not_t hq1) ?_
    refine CW.seq fun K10 hK10 => ?_
    refine CW.region ?_
    refine LW.pure rfl rfl (RV.move rfl) ?_
    refine LW.pure rfl rfl (RV.assign rfl) ?_
    refine LW.pure rfl rfl (RV.assign rfl) ?_
    refine LW.nil (hK10 _ _ ?_)
    refine CW.ret ?_
    obtain rfl := Option.some.inj F
    refine ⟨_, (ResOK.two rfl rfl), ?_⟩
    replace H := H.nilOwn 3 1
    replace R0 := H.ext
    replace H := H.pick (L' := [.own none 0 3 1 (List.map encN (([] : List Int)))]) [0] (by decide) rfl
    replace R0 := H.ext
    exact ⟨none, 0, (by first | rfl | (simp; done) | (simp; omega)), H⟩
set_option maxRecDepth 20000 in
set_option maxHeartbeats 1000000 in
theorem ref04_Unrank_ok {a0 : Bog} {a1 : Int} {A_a0_worth : Option Addr} {c_a0_worth : Nat} {w : World} {res : (List Int) × Int} (h_a0_worth : Sl2 w A_a0_worth c_a0_worth 1 encN a0.worth) (F : ref04_Unrank a0 a1 = some res) : Calls Try.prog 54 #[.agg #[.slice A_a0_worth a0.worth.length c_a0_worth], .int .i64 a1] w (fun e w' => ∃ (A0 : Option Addr) (c0 : Nat), e = .returned (.tuple #[.slice A0 res.1.length c0, .int .i64 res.2]) ∧ Sl w' A0 c0 1 (res.1.map encN) ∧ Ext w w') := by
  refine calls_of_cw (args := [.agg #[.slice A_a0_worth a0.worth.length c_a0_worth], .int .i64 a1]) Try.func54 rfl rfl rfl rfl ?_
  have H := Hp.start w
  have R0 := H.ext
  unfold ref04_Unrank at F
  refine CW.seq fun K1 hK1 => ?_
  refine CW.region ?_
  refine LW.go rfl rfl (OW.box rfl fun b1 w1 N1 => ?_)
  replace H := H.new N1 N1.blk
  replace R0 := H.ext
  refine LW.pure rfl rfl (RV.assign rfl) ?_
  refine LW.pure rfl rfl (RV.assign rfl) ?_
  refine LW.nil (hK1 _ _ ?_)
  refine CW.seq fun K2 hK2 => ?_
  obtain ⟨r2, hr2, F⟩ := bnd_some F
  refine CW.region ?_
  refine LW.pure rfl rfl (RV.loadA [.slice A_a0_worth a0.worth.length c_a0_worth] Tk24 rfl (H.blk 0 rfl).cells rfl rfl) ?_
  refine LW.go rfl rfl (OW.call Tc26 rfl (ref04_Validate_ok (a0 := a0) (h_a0_worth.ext R0) hr2) ?_)
  rintro _ w2 ⟨rfl, E1⟩
  refine ⟨_, rfl, ?_⟩
  replace H := H.grow E1
  replace R0 := H.ext
  refine LW.pure rfl rfl (RV.assign rfl) ?_
  refine LW.nil (hK2 _ _ ?_)
  refine CW.seq fun K3 hK3 => ?_
  refine CW.seq fun K4 hK4 => ?_
  refine CW.region ?_
  refine LW.pure rfl rfl (RV.move rfl) ?_
  refine LW.pure rfl rfl (RV.nei rfl rfl) ?_
  refine LW.nil (hK4 _ _ ?_)
  by_cases hp1 : r2 = 0
  ·
    replace F := ite_y hp1 F
    have hq1 := dec_t hp1
    refine CW.condF rfl (not_f hq1) ?_
    refine CW.skip (hK3 _ _ ?_)
    refine CW.seq fun K5 hK5 => ?_
    obtain ⟨r1, hr1, F⟩ := bnd_some F
    refine CW.region ?_
    refine LW.pure rfl rfl (RV.loadA [.slice A_a0_worth a0.worth.length c_a0_worth] Tk24 rfl (H.blk 0 rfl).cells rfl rfl) ?_
    refine LW.go rfl rfl (OW.call Tc82 rfl (ref04_all_ok (a0 := a0) (h_a0_worth.ext R0) hr1) ?_)
    rintro _ w3 ⟨A6_0, c6_0, hs6_0, rfl, E2⟩
    refine ⟨_, rfl, ?_⟩
    replace H : Hp w w3 [.tab A6_0 c6_0 25 hs6_0 3 1 (encM encN r1), .blk b1 24 [.slice A_a0_worth a0.worth.length c_a0_worth]] := H.append E2
    replace R0 := H.ext
    refine LW.pure rfl rfl (RV.assign rfl) ?_
    refine LW.nil (hK5 _ _ ?_)
    refine CW.seq fun K6 hK6 => ?_
    refine CW.seqJ (fun ρ wl1 => (∃ (t22_1 : Bool), ref04_Unrank_k1 a1 r1 t22_1 = some res ∧ ρ = [(1, .int .i64 a1), (4, .slice none 0 0), (5, .int .i64 0), (7, .slice A6_0 r1.length c6_0), (22, .bool t22_1)] ∧ Hp w wl1 [.tab A6_0 c6_0 25 hs6_0 3 1 (encM encN r1)])) ?_ ?_
    ·
      rintro _ wl1 ⟨t22_1, F, rfl, H⟩
      have R0 := H.ext
      unfold ref04_Unrank_k1 at F
      by_cases hp2 : t22_1 = true
      ·
        replace F := ite_y hp2 F
        have hq2 : t22_1 = true := hp2
        refine CW.condT rfl hq2 ?_
        refine CW.seq fun K7 hK7 => ?_
        refine CW.region ?_
        refine LW.pure rfl rfl (RV.assign rfl) ?_
        refine LW.pure rfl rfl (RV.assign rfl) ?_
        refine LW.nil (hK7 _ _ ?_)
        refine CW.ret ?_
        obtain rfl := Option.some.inj F
        refine ⟨_, (ResOK.two rfl rfl), ?_⟩
        exact ⟨none, 0, (by first | rfl | (simp; done) | (simp; omega)), (Sl.nil (by decide)), R0⟩
      ·
        replace F := ite_n hp2 F
        have hq2 : t22_1 = false := raw_f hp2
        refine CW.condF rfl hq2 ?_
        refine CW.skip (hK6 _ _ ?_)
        refine CW.seq fun K8 hK8 => ?_
        obtain ⟨x1, hbx1, hx1, F⟩ := ix_some F
        refine CW.region ?_
        refine LW.pure rfl rfl (RV.move rfl) ?_
        refine LW.pure rfl rfl (RV.move rfl) ?_
        obtain ⟨B1, e1, hh1⟩ := (H.tab 0 rfl).hd hx1
        refine LW.pure rfl rfl (RV.indexAddr Ts22 rfl rfl hbx1 ((H.tab 0 rfl).addr_ hx1)) ?_
        refine LW.pure rfl rfl (RV.load1 Tk25 rfl ((H.tab 0 rfl).cell hx1 hh1) rfl) ?_
        refine LW.pure rfl rfl (RV.assign rfl) ?_
        refine LW.pure rfl rfl (RV.assign rfl) ?_
        refine LW.nil (hK8 _ _ ?_)
        refine CW.ret ?_
        obtain rfl := Option.some.inj F
        refine ⟨_, (ResOK.two rfl rfl), ?_⟩
        exact ⟨B1, e1, (by first | rfl | (simp; done) | (simp; omega)), ((H.tab 0 rfl).rowO hx1 hh1).sl, R0⟩
    ·
      intro K9 hK9 jK19
      by_cases hp3 : a1 < 0
      ·
        replace F := ite_y hp3 F
        have hq3 := dec_t hp3
        refine CW.region ?_
        refine LW.pure rfl rfl (RV.move rfl) ?_
        refine LW.pure rfl rfl (RV.lss rfl rfl) ?_
        refine LW.pure rfl rfl (RV.move rfl) ?_
        refine LW.noB rfl rfl rfl rfl (ne_beq (v := true) hq3 rfl) ?_
        refine LW.noB rfl rfl rfl rfl (ne_beq (v := true) hq3 rfl) ?_
        refine LW.noB rfl rfl rfl rfl (ne_beq (v := true) hq3 rfl) ?_
        refine LW.noB rfl rfl rfl rfl (ne_beq (v := true) hq3 rfl) ?_
        refine LW.pure rfl rfl (RV.pickTB rfl hq3 rfl) ?_
        replace H := H.pick (L' := [.tab A6_0 c6_0 25 hs6_0 3 1 (encM encN r1)]) [0] (by decide) rfl
        replace R0 := H.ext
        refine LW.nil (jK19 _ _ ⟨_, ?_, ⟨true, F, rfl, H⟩⟩)
        exact ⟨rfl, rfl, rfl, (look_slice rfl (by first | rfl | (simp; done) | (simp; omega))), rfl, trivial⟩
      ·
        replace F := ite_n hp3 F
        have hq3 := dec_f hp3
        refine CW.region ?_
        refine LW.pure rfl rfl (RV.move rfl) ?_
        refine LW.pure rfl rfl (RV.lss rfl rfl) ?_
        refine LW.pure rfl rfl (RV.move rfl) ?_
        refine LW.pureYB rfl rfl rfl rfl hq3 (RV.move rfl) ?_
        refine LW.pureYB rfl rfl rfl rfl hq3 (RV.move rfl) ?_
        refine LW.pureYB rfl rfl rfl rfl hq3 (RV.len Ts22 rfl) ?_
        refine LW.pureYB rfl rfl rfl rfl hq3 (RV.geq rfl rfl) ?_
        refine LW.pure rfl rfl (RV.pickFB rfl hq3 rfl) ?_
        replace H := H.pick (L' := [.tab A6_0 c6_0 25 hs6_0 3 1 (encM encN r1)]) [0] (by decide) rfl
        replace R0 := H.ext
        refine LW.nil (jK19 _ _ ⟨_, ?_, ⟨(decide (((r1.length : Int)) ≤ a1)), F, rfl, H⟩⟩)
        exact ⟨rfl, rfl, rfl, (look_slice rfl (by first | rfl | (simp; done) | (simp; omega))), rfl, trivial⟩
  ·
    replace F := ite_n hp1 F
    have hq1 := dec_f hp1
    refine CW.condT rfl (not_t hq1) ?_
    refine CW.seq fun K10 hK10 => ?_
    refine CW.region ?_
    refine LW.pure rfl rfl (RV.move rfl) ?_
    refine LW.pure rfl rfl (RV.assign rfl) ?_
    refine LW.pure rfl rfl (RV.assign rfl) ?_
    refine LW.nil (hK10 _ _ ?_)
    refine CW.ret ?_
    obtain rfl := Option.some.inj F
    refine ⟨_, (ResOK.two rfl rfl), ?_⟩
    exact ⟨none, 0, (by first | rfl | (simp; done) | (simp; omega)), (Sl.nil (by decide)), R0⟩
set_option maxRecDepth 20000 in
set_option maxHeartbeats 1000000 in
theorem law04_CutRanks_ok {a0 : Bog} {a1 : List Int} {a2 : Int} {A_a0_worth : Option Addr} {c_a0_worth : Nat} {A_a1 : Option Addr} {c_a1 : Nat} {w : World} {res : Bool} (h_a0_worth : Sl2 w A_a0_worth c_a0_worth 1 encN a0.worth) (h_a1 : Sl w A_a1 c_a1 1 (a1.map encN)) (F : law04_CutRanks a0 a1 a2 = some res) : Calls Try.prog 11 #[.agg #[.slice A_a0_worth a0.worth.length c_a0_worth], .slice A_a1 a1.length c_a1, .int .i64 a2] w (Rt w (.bool res)) := by
  refine calls_of_cw (args := [.agg #[.slice A_a0_worth a0.worth.length c_a0_worth], .slice A_a1 a1.length c_a1, .int .i64 a2]) Try.func11 rfl rfl rfl rfl ?_
  have H := Hp.start w
  have R0 := H.ext
  unfold law04_CutRanks at F
  refine CW.seq fun K1 hK1 => ?_
  refine CW.region ?_
  refine LW.go rfl rfl (OW.box rfl fun b1 w1 N1 => ?_)
  replace H := H.new N1 N1.blk
  replace R0 := H.ext
  refine LW.pure rfl rfl (RV.assign rfl) ?_
  refine LW.nil (hK1 _ _ ?_)
  refine CW.seq fun K2 hK2 => ?_
  refine CW.seq fun K3 hK3 => ?_
  obtain ⟨r1, hr1, F⟩ := bnd_some F
  refine CW.region ?_
  refine LW.pure rfl rfl (RV.loadA [.slice A_a0_worth a0.worth.length c_a0_worth] Tk24 rfl (H.blk 0 rfl).cells rfl rfl) ?_
  refine LW.pure rfl rfl (RV.move rfl) ?_
  refine LW.go rfl rfl (OW.buildSlice (e := 25) (vs := [.slice A_a1 a1.length c_a1]) (cs := [.slice A_a1 a1.length c_a1]) rfl (fun _ => by kernel_rfl) fun b2 w2 N2 => ?_)
  replace H := H.made' (k := 1) (t := 25) (enc := encH) (l := ([((A_a1, c_a1), a1)] : List ((Option Addr × Nat) × List Int))) N2 (by have q := N2.blk; simp only [List.flatMap_cons, List.flatMap_nil, encH, List.length_nil, List.append_nil, List.cons_append, List.nil_append]; first | done | exact q) (fun _ => rfl) rfl (by first | decide | omega | (simp; done) | (simp; omega))
  replace R0 := H.ext
  have hS23 : Sl2 w2 (some ⟨b2, 0, none⟩) 1 1 encN [a1] := Sl2.one (H.own 0 rfl).sl (h_a1.ext R0)
  refine LW.go rfl rfl (OW.call Tc17 (evs_cast rfl (by first | rfl | (simp; done) | (simp; omega))) (law04_Long_ok (a0 := a0) (a1 := ([a1] : List (List Int))) (h_a0_worth.ext R0) hS23 hr1) ?_)
  rintro _ w3 ⟨rfl, E1⟩
  refine ⟨_, rfl, ?_⟩
  have hS23 := hS23.ext E1
  replace H := H.grow E1
  replace R0 := H.ext
  refine LW.nil (hK3 _ _ ?_)
  by_cases hp1 : r1 = true
  ·
    replace F := ite_y hp1 F
    have hq1 : r1 = true := hp1
    refine CW.condT rfl hq1 ?_
    refine CW.seq fun K4 hK4 => ?_
    obtain ⟨r2, hr2, F⟩ := bnd_some F
    refine CW.region ?_
    refine LW.go rfl rfl (OW.call Tc18 rfl (law04_sane_ok hr2) ?_)
    rintro _ w4 ⟨rfl, E2⟩
    refine ⟨_, rfl, ?_⟩
    have hS23 := hS23.ext E2
    replace H := H.grow E2
    replace R0 := H.ext
    refine LW.pure rfl rfl (RV.assign rfl) ?_
    refine LW.nil (hK4 _ _ ?_)
    refine CW.ret ?_
    obtain rfl := Option.some.inj F
    refine ⟨_, (ResOK.one rfl), ?_⟩
    refine ⟨(by first | rfl | simp), R0⟩
  ·
    replace F := ite_n hp1 F
    have hq1 : r1 = false := raw_f hp1
    refine CW.condF rfl hq1 ?_
    refine CW.skip (hK2 _ _ ?_)
    refine CW.seq fun K5 hK5 => ?_
    obtain ⟨r3, hr3, F⟩ := bnd_some F
    refine CW.region ?_
    refine LW.pure rfl rfl (RV.loadA [.slice A_a0_worth a0.worth.length c_a0_worth] Tk24 rfl (H.blk 1 rfl).cells rfl rfl) ?_
    refine LW.go rfl rfl (OW.call Tc49 rfl (cut_Count_ok (a0 := a0) (h_a0_worth.ext R0) hr3) ?_)
    rintro _ w5 ⟨rfl, E3⟩
    refine ⟨_, rfl, ?_⟩
    have hS23 := hS23.ext E3
    replace H := H.grow E3
    replace R0 := H.ext
    refine LW.pure rfl rfl (RV.move rfl) ?_
    refine LW.pure rfl rfl (RV.extract rfl rfl) ?_
    refine LW.pure rfl rfl (RV.extract rfl rfl) ?_
    refine LW.pure rfl rfl (RV.assign rfl) ?_
    refine LW.pure rfl rfl (RV.assign rfl) ?_
    refine LW.nil (hK5 _ _ ?_)
    refine CW.seq fun K6 hK6 => ?_
    obtain ⟨r4, hr4, F⟩ := bnd_some F
    refine CW.region ?_
    refine LW.pure rfl rfl (RV.loadA [.slice A_a0_worth a0.worth.length c_a0_worth] Tk24 rfl (H.blk 1 rfl).cells rfl rfl) ?_
    refine LW.go rfl rfl (OW.call Tc50 rfl (ref04_Count_ok (a0 := a0) (h_a0_worth.ext R0) hr4) ?_)
    rintro _ w6 ⟨rfl, E4⟩
    refine ⟨_, rfl, ?_⟩
    have hS23 := hS23.ext E4
    replace H := H.grow E4
    replace R0 := H.ext
    refine LW.pure rfl rfl (RV.move rfl) ?_
    refine LW.pure rfl rfl (RV.extract rfl rfl) ?_
    refine LW.pure rfl rfl (RV.extract rfl rfl) ?_
    refine LW.pure rfl rfl (RV.assign rfl) ?_
    refine LW.pure rfl rfl (RV.assign rfl) ?_
    refine LW.nil (hK6 _ _ ?_)
    refine CW.seq fun K7 hK7 => ?_
    obtain ⟨r5, hr5, F⟩ := bnd_some F
    refine CW.region ?_
    refine LW.pure rfl rfl (RV.loadA [.slice A_a0_worth a0.worth.length c_a0_worth] Tk24 rfl (H.blk 1 rfl).cells rfl rfl) ?_
    refine LW.pure rfl rfl (RV.move rfl) ?_
    refine LW.go rfl rfl (OW.call Tc51 rfl (cut_Rank_ok (a0 := a0) (a1 := a1) (h_a0_worth.ext R0) (h_a1.ext R0) hr5) ?_)
    rintro _ w7 ⟨rfl, E5⟩
    refine ⟨_, rfl, ?_⟩
    have hS23 := hS23.ext E5
    replace H := H.grow E5
    replace R0 := H.ext
    refine LW.pure rfl rfl (RV.move rfl) ?_
    refine LW.pure rfl rfl (RV.extract rfl rfl) ?_
    refine LW.pure rfl rfl (RV.extract rfl rfl) ?_
    refine LW.pure rfl rfl (RV.assign rfl) ?_
    refine LW.pure rfl rfl (RV.assign rfl) ?_
    refine LW.nil (hK7 _ _ ?_)
    refine CW.seq fun K8 hK8 => ?_
    obtain ⟨r6, hr6, F⟩ := bnd_some F
    refine CW.region ?_
    refine LW.pure rfl rfl (RV.loadA [.slice A_a0_worth a0.worth.length c_a0_worth] Tk24 rfl (H.blk 1 rfl).cells rfl rfl) ?_
    refine LW.pure rfl rfl (RV.move rfl) ?_
    refine LW.go rfl rfl (OW.call Tc52 rfl (ref04_Rank_ok (a0 := a0) (a1 := a1) (h_a0_worth.ext R0) (h_a1.ext R0) hr6) ?_)
    rintro _ w8 ⟨rfl, E6⟩
    refine ⟨_, rfl, ?_⟩
    have hS23 := hS23.ext E6
    replace H := H.grow E6
    replace R0 := H.ext
    refine LW.pure rfl rfl (RV.move rfl) ?_
    refine LW.pure rfl rfl (RV.extract rfl rfl) ?_
    refine LW.pure rfl rfl (RV.extract rfl rfl) ?_
    refine LW.pure rfl rfl (RV.assign rfl) ?_
    refine LW.pure rfl rfl (RV.assign rfl) ?_
    refine LW.nil (hK8 _ _ ?_)
    refine CW.seq fun K9 hK9 => ?_
    obtain ⟨r7, hr7, F⟩ := bnd_some F
    refine CW.region ?_
    refine LW.pure rfl rfl (RV.loadA [.slice A_a0_worth a0.worth.length c_a0_worth] Tk24 rfl (H.blk 1 rfl).cells rfl rfl) ?_
    refine LW.pure rfl rfl (RV.move rfl) ?_
    refine LW.go rfl rfl (OW.call Tc53 rfl (cut_Unrank_ok (a0 := a0) (a1 := a2) (h_a0_worth.ext R0) hr7) ?_)
    rintro _ w9 ⟨A24_0, c24_0, rfl, E7⟩
    refine ⟨_, rfl, ?_⟩
    have hS23 := hS23.ext E7.ext
    replace H : Hp w w9 [.own A24_0 c24_0 3 1 (List.map encN r7.1), .own (some ⟨b2, 0, none⟩) ((([((A_a1, c_a1), a1)] : List ((Option Addr × Nat) × List Int))).length) 25 1 (List.map encH (([((A_a1, c_a1), a1)] : List ((Option Addr × Nat) × List Int)))), .blk b1 24 [.slice A_a0_worth a0.worth.length c_a0_worth]] := H.append E7
    replace R0 := H.ext
    refine LW.pure rfl rfl (RV.move rfl) ?_
    refine LW.pure rfl rfl (RV.extract rfl rfl) ?_
    refine LW.pure rfl rfl (RV.extract rfl rfl) ?_
    refine LW.pure rfl rfl (RV.assign rfl) ?_
    refine LW.pure rfl rfl (RV.assign rfl) ?_
    refine LW.nil (hK9 _ _ ?_)
    refine CW.seq fun K10 hK10 => ?_
    obtain ⟨r8, hr8, F⟩ := bnd_some F
    refine CW.region ?_
    refine LW.pure rfl rfl (RV.loadA [.slice A_a0_worth a0.worth.length c_a0_worth] Tk24 rfl (H.blk 2 rfl).cells rfl rfl) ?_
    refine LW.pure rfl rfl (RV.move rfl) ?_
    refine LW.go rfl rfl (OW.call Tc54 rfl (ref04_Unrank_ok (a0 := a0) (a1 := a2) (h_a0_worth.ext R0) hr8) ?_)
    rintro _ w10 ⟨A26_0, c26_0, rfl, S26_0, E8⟩
    refine ⟨_, rfl, ?_⟩
    have hS23 := hS23.ext E8
    replace H := H.grow E8
    replace R0 := H.ext
    refine LW.pure rfl rfl (RV.move rfl) ?_
    refine LW.pure rfl rfl (RV.extract rfl rfl) ?_
    refine LW.pure rfl rfl (RV.extract rfl rfl) ?_
    refine LW.pure rfl rfl (RV.assign rfl) ?_
    refine LW.pure rfl rfl (RV.assign rfl) ?_
    refine LW.nil (hK10 _ _ ?_)
    refine CW.seq fun K11 hK11 => ?_
    by_cases hp2 : r3.1 = r4.1
    ·
      replace F := ite_y hp2 F
      have hq2 := dec_t hp2
      by_cases hp3 : r3.2 = r4.2
      ·
        replace F := ite_y hp3 F
        have hq3 := dec_t hp3
        by_cases hp4 : r5.1 = r6.1
        ·
          replace F := ite_y hp4 F
          have hq4 := dec_t hp4
          by_cases hp5 : r5.2 = r6.2
          ·
            replace F := ite_y hp5 F
            have hq5 := dec_t hp5
            obtain ⟨r9, hr9, F⟩ := bnd_some F
            by_cases hp6 : r9 = true
            ·
              replace F := ite_y hp6 F
              have hq6 : r9 = true := hp6
              by_cases hp7 : r7.2 = r8.2
              ·
                replace F := ite_y hp7 F
                have hq7 := dec_t hp7
                obtain ⟨r10, hr10, F⟩ := bnd_some F
                refine CW.region ?_
                refine LW.pure rfl rfl (RV.move rfl) ?_
                refine LW.pure rfl rfl (RV.move rfl) ?_
                refine LW.pure rfl rfl (RV.eqi rfl rfl) ?_
                refine LW.pure rfl rfl (RV.move rfl) ?_
                refine LW.pureYB rfl rfl rfl rfl hq2 (RV.move rfl) ?_
                refine LW.pureYB rfl rfl rfl rfl hq2 (RV.move rfl) ?_
                refine LW.pureYB rfl rfl rfl rfl hq2 (RV.eqi rfl rfl) ?_
                refine LW.pure rfl rfl (RV.pickTB rfl hq2 rfl) ?_
                refine LW.pure rfl rfl (RV.move rfl) ?_
                refine LW.pureYB rfl rfl rfl rfl hq3 (RV.move rfl) ?_
                refine LW.pureYB rfl rfl rfl rfl hq3 (RV.move rfl) ?_
                refine LW.pureYB rfl rfl rfl rfl hq3 (RV.eqi rfl rfl) ?_
                refine LW.pure rfl rfl (RV.pickTB rfl hq3 rfl) ?_
                refine LW.pure rfl rfl (RV.move rfl) ?_
                refine LW.pureYB rfl rfl rfl rfl hq4 (RV.move rfl) ?_
                refine LW.pureYB rfl rfl rfl rfl hq4 (RV.move rfl) ?_
                refine LW.pureYB rfl rfl rfl rfl hq4 (RV.eqi rfl rfl) ?_
                refine LW.pure rfl rfl (RV.pickTB rfl hq4 rfl) ?_
                refine LW.pure rfl rfl (RV.move rfl) ?_
                refine LW.pureYB rfl rfl rfl rfl hq5 (RV.move rfl) ?_
                refine LW.pureYB rfl rfl rfl rfl hq5 (RV.move rfl) ?_
                refine LW.yesB rfl rfl rfl rfl hq5 (OW.call Tc21 rfl (ref04_SameInts_ok (a0 := r7.1) (a1 := r8.1) (H.own 0 rfl).sl S26_0 hr9) ?_)
                rintro _ w11 ⟨rfl, E9⟩
                refine ⟨_, rfl, ?_⟩
                have hS23 := hS23.ext E9
                have S26_0 := S26_0.ext E9
                replace H := H.grow E9
                replace R0 := H.ext
                refine LW.pure rfl rfl (RV.pickTB rfl hq5 rfl) ?_
                refine LW.pure rfl rfl (RV.move rfl) ?_
                refine LW.pureYB rfl rfl rfl rfl hq6 (RV.move rfl) ?_
                refine LW.pureYB rfl rfl rfl rfl hq6 (RV.move rfl) ?_
                refine LW.pureYB rfl rfl rfl rfl hq6 (RV.eqi rfl rfl) ?_
                refine LW.pure rfl rfl (RV.pickTB rfl hq6 rfl) ?_
                refine LW.pure rfl rfl (RV.move rfl) ?_
                refine LW.yesB rfl rfl rfl rfl hq7 (OW.call Tc18 rfl (law04_sane_ok hr10) ?_)
                rintro _ w12 ⟨rfl, E10⟩
                refine ⟨_, rfl, ?_⟩
                have hS23 := hS23.ext E10
                have S26_0 := S26_0.ext E10
                replace H := H.grow E10
                replace R0 := H.ext
                refine LW.pure rfl rfl (RV.pickTB rfl hq7 rfl) ?_
                refine LW.pure rfl rfl (RV.assign rfl) ?_
                refine LW.nil (hK11 _ _ ?_)
                refine CW.ret ?_
                obtain rfl := Option.some.inj F
                refine ⟨_, (ResOK.one rfl), ?_⟩
                refine ⟨(by first | rfl | simp), R0⟩
              ·
                replace F := ite_n hp7 F
                have hq7 := dec_f hp7
                refine CW.region ?_
                refine LW.pure rfl rfl (RV.move rfl) ?_
                refine LW.pure rfl rfl (RV.move rfl) ?_
                refine LW.pure rfl rfl (RV.eqi rfl rfl) ?_
                refine LW.pure rfl rfl (RV.move rfl) ?_
                refine LW.pureYB rfl rfl rfl rfl hq2 (RV.move rfl) ?_
                refine LW.pureYB rfl rfl rfl rfl hq2 (RV.move rfl) ?_
                refine LW.pureYB rfl rfl rfl rfl hq2 (RV.eqi rfl rfl) ?_
                refine LW.pure rfl rfl (RV.pickTB rfl hq2 rfl) ?_
                refine LW.pure rfl rfl (RV.move rfl) ?_
                refine LW.pureYB rfl rfl rfl rfl hq3 (RV.move rfl) ?_
                refine LW.pureYB rfl rfl rfl rfl hq3 (RV.move rfl) ?_
                refine LW.pureYB rfl rfl rfl rfl hq3 (RV.eqi rfl rfl) ?_
                refine LW.pure rfl rfl (RV.pickTB rfl hq3 rfl) ?_
                refine LW.pure rfl rfl (RV.move rfl) ?_
                refine LW.pureYB rfl rfl rfl rfl hq4 (RV.move rfl) ?_
                refine LW.pureYB rfl rfl rfl rfl hq4 (RV.move rfl) ?_
                refine LW.pureYB rfl rfl rfl rfl hq4 (RV.eqi rfl rfl) ?_
                refine LW.pure rfl rfl (RV.pickTB rfl hq4 rfl) ?_
                refine LW.pure rfl rfl (RV.move rfl) ?_
                refine LW.pureYB rfl rfl rfl rfl hq5 (RV.move rfl) ?_
                refine LW.pureYB rfl rfl rfl rfl hq5 (RV.move rfl) ?_
                refine LW.yesB rfl rfl rfl rfl hq5 (OW.call Tc21 rfl (ref04_SameInts_ok (a0 := r7.1) (a1 := r8.1) (H.own 0 rfl).sl S26_0 hr9) ?_)
                rintro _ w13 ⟨rfl, E11⟩
                refine ⟨_, rfl, ?_⟩
                have hS23 := hS23.ext E11
                have S26_0 := S26_0.ext E11
                replace H := H.grow E11
                replace R0 := H.ext
                refine LW.pure rfl rfl (RV.pickTB rfl hq5 rfl) ?_
                refine LW.pure rfl rfl (RV.move rfl) ?_
                refine LW.pureYB rfl rfl rfl rfl hq6 (RV.move rfl) ?_
                refine LW.pureYB rfl rfl rfl rfl hq6 (RV.move rfl) ?_
                refine LW.pureYB rfl rfl rfl rfl hq6 (RV.eqi rfl rfl) ?_
                refine LW.pure rfl rfl (RV.pickTB rfl hq6 rfl) ?_
                refine LW.pure rfl rfl (RV.move rfl) ?_
                refine LW.noB rfl rfl rfl rfl (ne_beq (v := false) hq7 rfl) ?_
                refine LW.pure rfl rfl (RV.pickFB rfl hq7 rfl) ?_
                refine LW.pure rfl rfl (RV.assign rfl) ?_
                refine LW.nil (hK11 _ _ ?_)
                refine CW.ret ?_
                obtain rfl := Option.some.inj F
                refine ⟨_, (ResOK.one rfl), ?_⟩
                refine ⟨(by first | rfl | simp), R0⟩
            ·
              replace F := ite_n hp6 F
              have hq6 : r9 = false := raw_f hp6
              refine CW.region ?_
              refine LW.pure rfl rfl (RV.move rfl) ?_
              refine LW.pure rfl rfl (RV.move rfl) ?_
              refine LW.pure rfl rfl (RV.eqi rfl rfl) ?_
              refine LW.pure rfl rfl (RV.move rfl) ?_
              refine LW.pureYB rfl rfl rfl rfl hq2 (RV.move rfl) ?_
              refine LW.pureYB rfl rfl rfl rfl hq2 (RV.move rfl) ?_
              refine LW.pureYB rfl rfl rfl rfl hq2 (RV.eqi rfl rfl) ?_
              refine LW.pure rfl rfl (RV.pickTB rfl hq2 rfl) ?_
              refine LW.pure rfl rfl (RV.move rfl) ?_
              refine LW.pureYB rfl rfl rfl rfl hq3 (RV.move rfl) ?_
              refine LW.pureYB rfl rfl rfl rfl hq3 (RV.move rfl) ?_
              refine LW.pureYB rfl rfl rfl rfl hq3 (RV.eqi rfl rfl) ?_
              refine LW.pure rfl rfl (RV.pickTB rfl hq3 rfl) ?_
              refine LW.pure rfl rfl (RV.move rfl) ?_
              refine LW.pureYB rfl rfl rfl rfl hq4 (RV.move rfl) ?_
              refine LW.pureYB rfl rfl rfl rfl hq4 (RV.move rfl) ?_
              refine LW.pureYB rfl rfl rfl rfl hq4 (RV.eqi rfl rfl) ?_
              refine LW.pure rfl rfl (RV.pickTB rfl hq4 rfl) ?_
              refine LW.pure rfl rfl (RV.move rfl) ?_
              refine LW.pureYB rfl rfl rfl rfl hq5 (RV.move rfl) ?_
              refine LW.pureYB rfl rfl rfl rfl hq5 (RV.move rfl) ?_
              refine LW.yesB rfl rfl rfl rfl hq5 (OW.call Tc21 rfl (ref04_SameInts_ok (a0 := r7.1) (a1 := r8.1) (H.own 0 rfl).sl S26_0 hr9) ?_)
              rintro _ w14 ⟨rfl, E12⟩
              refine ⟨_, rfl, ?_⟩
              have hS23 := hS23.ext E12
              have S26_0 := S26_0.ext E12
              replace H := H.grow E12
              replace R0 := H.ext
              refine LW.pure rfl rfl (RV.pickTB rfl hq5 rfl) ?_
              refine LW.pure rfl rfl (RV.move rfl) ?_
              refine LW.noB rfl rfl rfl rfl (ne_beq (v := false) hq6 rfl) ?_
              refine LW.noB rfl rfl rfl rfl (ne_beq (v := false) hq6 rfl) ?_
              refine LW.noB rfl rfl rfl rfl (ne_beq (v := false) hq6 rfl) ?_
              refine LW.pure rfl rfl (RV.pickFB rfl hq6 rfl) ?_
              refine LW.pure rfl rfl (RV.move rfl) ?_
              refine LW.noB rfl rfl rfl rfl (ne_beq (v := false) rfl rfl) ?_
              refine LW.pure rfl rfl (RV.pickFB rfl rfl rfl) ?_
              refine LW.pure rfl rfl (RV.assign rfl) ?_
              refine LW.nil (hK11 _ _ ?_)
              refine CW.ret ?_
              obtain rfl := Option.some.inj F
              refine ⟨_, (ResOK.one rfl), ?_⟩
              refine ⟨(by first | rfl | simp), R0⟩
          ·
            replace F := ite_n hp5 F
            have hq5 := dec_f hp5
            refine CW.region ?_
            refine LW.pure rfl rfl (RV.move rfl) ?_
            refine LW.pure rfl rfl (RV.move rfl) ?_
            refine LW.pure rfl rfl (RV.eqi rfl rfl) ?_
            refine LW.pure rfl rfl (RV.move rfl) ?_
            refine LW.pureYB rfl rfl rfl rfl hq2 (RV.move rfl) ?_
            refine LW.pureYB rfl rfl rfl rfl hq2 (RV.move rfl) ?_
            refine LW.pureYB rfl rfl rfl rfl hq2 (RV.eqi rfl rfl) ?_
            refine LW.pure rfl rfl (RV.pickTB rfl hq2 rfl) ?_
            refine LW.pure rfl rfl (RV.move rfl) ?_
            refine LW.pureYB rfl rfl rfl rfl hq3 (RV.move rfl) ?_
            refine LW.pureYB rfl rfl rfl rfl hq3 (RV.move rfl) ?_
            refine LW.pureYB rfl rfl rfl rfl hq3 (RV.eqi rfl rfl) ?_
            refine LW.pure rfl rfl (RV.pickTB rfl hq3 rfl) ?_
            refine LW.pure rfl rfl (RV.move rfl) ?_
            refine LW.pureYB rfl rfl rfl rfl hq4 (RV.move rfl) ?_
            refine LW.pureYB rfl rfl rfl rfl hq4 (RV.move rfl) ?_
            refine LW.pureYB rfl rfl rfl rfl hq4 (RV.eqi rfl rfl) ?_
            refine LW.pure rfl rfl (RV.pickTB rfl hq4 rfl) ?_
            refine LW.pure rfl rfl (RV.move rfl) ?_
            refine LW.noB rfl rfl rfl rfl (ne_beq (v := false) hq5 rfl) ?_
            refine LW.noB rfl rfl rfl rfl (ne_beq (v := false) hq5 rfl) ?_
            refine LW.noB rfl rfl rfl rfl (ne_beq (v := false) hq5 rfl) ?_
            refine LW.pure rfl rfl (RV.pickFB rfl hq5 rfl) ?_
            refine LW.pure rfl rfl (RV.move rfl) ?_
            refine LW.noB rfl rfl rfl rfl (ne_beq (v := false) rfl rfl) ?_
            refine LW.noB rfl rfl rfl rfl (ne_beq (v := false) rfl rfl) ?_
            refine LW.noB rfl rfl rfl rfl (ne_beq (v := false) rfl rfl) ?_
            refine LW.pure rfl rfl (RV.pickFB rfl rfl rfl) ?_
            refine LW.pure rfl rfl (RV.move rfl) ?_
            refine LW.noB rfl rfl rfl rfl (ne_beq (v := false) rfl rfl) ?_
            refine LW.pure rfl rfl (RV.pickFB rfl rfl rfl) ?_
            refine LW.pure rfl rfl (RV.assign rfl) ?_
            refine LW.nil (hK11 _ _ ?_)
            refine CW.ret ?_
            obtain rfl := Option.some.inj F
            refine ⟨_, (ResOK.one rfl), ?_⟩
            refine ⟨(by first | rfl | simp), R0⟩
        ·
          replace F := ite_n hp4 F
          have hq4 := dec_f hp4
          refine CW.region ?_
          refine LW.pure rfl rfl (RV.move rfl) ?_
          refine LW.pure rfl rfl (RV.move rfl) ?_
          refine LW.pure rfl rfl (RV.eqi rfl rfl) ?_
          refine LW.pure rfl rfl (RV.move rfl) ?_
          refine LW.pureYB rfl rfl rfl rfl hq2 (RV.move rfl) ?_
          refine LW.pureYB rfl rfl rfl rfl hq2 (RV.move rfl) ?_
          refine LW.pureYB rfl rfl rfl rfl hq2 (RV.eqi rfl rfl) ?_
          refine LW.pure rfl rfl (RV.pickTB rfl hq2 rfl) ?_
          refine LW.pure rfl rfl (RV.move rfl) ?_
          refine LW.pureYB rfl rfl rfl rfl hq3 (RV.move rfl) ?_
          refine LW.pureYB rfl rfl rfl rfl hq3 (RV.move rfl) ?_
          refine LW.pureYB rfl rfl rfl rfl hq3 (RV.eqi rfl rfl) ?_
          refine LW.pure rfl rfl (RV.pickTB rfl hq3 rfl) ?_
          refine LW.pure rfl rfl (RV.move rfl) ?_
          refine LW.noB rfl rfl rfl rfl (ne_beq (v := false) hq4 rfl) ?_
          refine LW.noB rfl rfl rfl rfl (ne_beq (v := false) hq4 rfl) ?_
          refine LW.noB rfl rfl rfl rfl (ne_beq (v := false) hq4 rfl) ?_
          refine LW.pure rfl rfl (RV.pickFB rfl hq4 rfl) ?_
          refine LW.pure rfl rfl (RV.move rfl) ?_
          refine LW.noB rfl rfl rfl rfl (ne_beq (v := false) rfl rfl) ?_
          refine LW.noB rfl rfl rfl rfl (ne_beq (v := false) rfl rfl) ?_
          refine LW.noB rfl rfl rfl rfl (ne_beq (v := false) rfl rfl) ?_
          refine LW.pure rfl rfl (RV.pickFB rfl rfl rfl) ?_
          refine LW.pure rfl rfl (RV.move rfl) ?_
          refine LW.noB rfl rfl rfl rfl (ne_beq (v := false) rfl rfl) ?_
          refine LW.noB rfl rfl rfl rfl (ne_beq (v := false) rfl rfl) ?_
          refine LW.noB rfl rfl rfl rfl (ne_beq (v := false) rfl rfl) ?_
          refine LW.pure rfl rfl (RV.pickFB rfl rfl rfl) ?_
          refine LW.pure rfl rfl (RV.move rfl) ?_
          refine LW.noB rfl rfl rfl rfl (ne_beq (v := false) rfl rfl) ?_
          refine LW.pure rfl rfl (RV.pickFB rfl rfl rfl) ?_
          refine LW.pure rfl rfl (RV.assign rfl) ?_
          refine LW.nil (hK11 _ _ ?_)
          refine CW.ret ?_
          obtain rfl := Option.some.inj F
          refine ⟨_, (ResOK.one rfl), ?_⟩
          refine ⟨(by first | rfl | simp), R0⟩
      ·
        replace F := ite_n hp3 F
        have hq3 := dec_f hp3
        refine CW.region ?_
        refine LW.pure rfl rfl (RV.move rfl) ?_
        refine LW.pure rfl rfl (RV.move rfl) ?_
        refine LW.pure rfl rfl (RV.eqi rfl rfl) ?_
        refine LW.pure rfl rfl (RV.move rfl) ?_
        refine LW.pureYB rfl rfl rfl rfl hq2 (RV.move rfl) ?_
        refine LW.pureYB rfl rfl rfl rfl hq2 (RV.move rfl) ?_
        refine LW.pureYB rfl rfl rfl rfl hq2 (RV.eqi rfl rfl) ?_
        refine LW.pure rfl rfl (RV.pickTB rfl hq2 rfl) ?_
        refine LW.pure rfl rfl (RV.move rfl) ?_
        refine LW.noB rfl rfl rfl rfl (ne_beq (v := false) hq3 rfl) ?_
        refine LW.noB rfl rfl rfl rfl (ne_beq (v := false) hq3 rfl) ?_
        refine LW.noB rfl rfl rfl rfl (ne_beq (v := false) hq3 rfl) ?_
        refine LW.pure rfl rfl (RV.pickFB rfl hq3 rfl) ?_
        refine LW.pure rfl rfl (RV.move rfl) ?_
        refine LW.noB rfl rfl rfl rfl (ne_beq (v := false) rfl rfl) ?_
        refine LW.noB rfl rfl rfl rfl (ne_beq (v := false) rfl rfl) ?_
        refine LW.noB rfl rfl rfl rfl (ne_beq (v := false) rfl rfl) ?_
        refine LW.pure rfl rfl (RV.pickFB rfl rfl rfl) ?_
        refine LW.pure rfl rfl (RV.move rfl) ?_
        refine LW.noB rfl rfl rfl rfl (ne_beq (v := false) rfl rfl) ?_
        refine LW.noB rfl rfl rfl rfl (ne_beq (v := false) rfl rfl) ?_
        refine LW.noB rfl rfl rfl rfl (ne_beq (v := false) rfl rfl) ?_
        refine LW.pure rfl rfl (RV.pickFB rfl rfl rfl) ?_
        refine LW.pure rfl rfl (RV.move rfl) ?_
        refine LW.noB rfl rfl rfl rfl (ne_beq (v := false) rfl rfl) ?_
        refine LW.noB rfl rfl rfl rfl (ne_beq (v := false) rfl rfl) ?_
        refine LW.noB rfl rfl rfl rfl (ne_beq (v := false) rfl rfl) ?_
        refine LW.pure rfl rfl (RV.pickFB rfl rfl rfl) ?_
        refine LW.pure rfl rfl (RV.move rfl) ?_
        refine LW.noB rfl rfl rfl rfl (ne_beq (v := false) rfl rfl) ?_
        refine LW.pure rfl rfl (RV.pickFB rfl rfl rfl) ?_
        refine LW.pure rfl rfl (RV.assign rfl) ?_
        refine LW.nil (hK11 _ _ ?_)
        refine CW.ret ?_
        obtain rfl := Option.some.inj F
        refine ⟨_, (ResOK.one rfl), ?_⟩
        refine ⟨(by first | rfl | simp), R0⟩
    ·
      replace F := ite_n hp2 F
      have hq2 := dec_f hp2
      refine CW.region ?_
      refine LW.pure rfl rfl (RV.move rfl) ?_
      refine LW.pure rfl rfl (RV.move rfl) ?_
      refine LW.pure rfl rfl (RV.eqi rfl rfl) ?_
      refine LW.pure rfl rfl (RV.move rfl) ?_
      refine LW.noB rfl rfl rfl rfl (ne_beq (v := false) hq2 rfl) ?_
      refine LW.noB rfl rfl rfl rfl (ne_beq (v := false) hq2 rfl) ?_
      refine LW.noB rfl rfl rfl rfl (ne_beq (v := false) hq2 rfl) ?_
      refine LW.pure rfl rfl (RV.pickFB rfl hq2 rfl) ?_
      refine LW.pure rfl rfl (RV.move rfl) ?_
      refine LW.noB rfl rfl rfl rfl (ne_beq (v := false) rfl rfl) ?_
      refine LW.noB rfl rfl rfl rfl (ne_beq (v := false) rfl rfl) ?_
      refine LW.noB rfl rfl rfl rfl (ne_beq (v := false) rfl rfl) ?_
      refine LW.pure rfl rfl (RV.pickFB rfl rfl rfl) ?_
      refine LW.pure rfl rfl (RV.move rfl) ?_
      refine LW.noB rfl rfl rfl rfl (ne_beq (v := false) rfl rfl) ?_
      refine LW.noB rfl rfl rfl rfl (ne_beq (v := false) rfl rfl) ?_
      refine LW.noB rfl rfl rfl rfl (ne_beq (v := false) rfl rfl) ?_
      refine LW.pure rfl rfl (RV.pickFB rfl rfl rfl) ?_
      refine LW.pure rfl rfl (RV.move rfl) ?_
      refine LW.noB rfl rfl rfl rfl (ne_beq (v := false) rfl rfl) ?_
      refine LW.noB rfl rfl rfl rfl (ne_beq (v := false) rfl rfl) ?_
      refine LW.noB rfl rfl rfl rfl (ne_beq (v := false) rfl rfl) ?_
      refine LW.pure rfl rfl (RV.pickFB rfl rfl rfl) ?_
      refine LW.pure rfl rfl (RV.move rfl) ?_
      refine LW.noB rfl rfl rfl rfl (ne_beq (v := false) rfl rfl) ?_
      refine LW.noB rfl rfl rfl rfl (ne_beq (v := false) rfl rfl) ?_
      refine LW.noB rfl rfl rfl rfl (ne_beq (v := false) rfl rfl) ?_
      refine LW.pure rfl rfl (RV.pickFB rfl rfl rfl) ?_
      refine LW.pure rfl rfl (RV.move rfl) ?_
      refine LW.noB rfl rfl rfl rfl (ne_beq (v := false) rfl rfl) ?_
      refine LW.pure rfl rfl (RV.pickFB rfl rfl rfl) ?_
      refine LW.pure rfl rfl (RV.assign rfl) ?_
      refine LW.nil (hK11 _ _ ?_)
      refine CW.ret ?_
      obtain rfl := Option.some.inj F
      refine ⟨_, (ResOK.one rfl), ?_⟩
      refine ⟨(by first | rfl | simp), R0⟩
end Go.D4

namespace Go.Tb
/-- A loop over 0 .. N - 1 with a state, that is left at the first i for which p does not hold. -/
theorem scan_loop {S R : Type} (N : Nat) (p : Nat → Bool) (g : Nat → S) (L : Nat → S → Int → Option R) (yes : Option R) (no : Nat → Option R)
    (step : ∀ n i : Nat, i < N → L (n + 1) (g i) (i : Int) = if p i = true then L n (g (i + 1)) ((i + 1 : Nat) : Int) else no i)
    (stop : ∀ n : Nat, L (n + 1) (g N) (N : Int) = yes) : ∀ (d n i : Nat), N = i + d → d < n → L n (g i) (i : Int) = match (List.range' i d).find? (fun j => !p j) with | none => yes | some j => no j
  | 0, n + 1, i, hd, hn => by
    have hi : i = N := by omega
    subst hi
    rw [stop n]; rfl
  | d + 1, n + 1, i, hd, hn => by
    rw [step n i (by omega), List.range'_succ, List.find?_cons]
    cases hp : p i
    · simp
    · simp only [if_true, Bool.not_true]
      exact scan_loop N p g L yes no step stop d n (i + 1) (by omega) (by omega)
theorem find_all {p : Nat → Bool} {i d : Nat} : (List.range' i d).find? (fun j => !p j) = none ↔ ∀ j, i ≤ j → j < i + d → p j = true := by
  rw [List.find?_eq_none]
  constructor
  · intro h j h1 h2
    have := h j (by rw [List.mem_range'_1]; omega)
    simpa using this
  · intro h x hx
    rw [List.mem_range'_1] at hx
    simp [h x hx.1 hx.2]
/-- A loop over 0 .. N - 1 with a state and no way out. -/
theorem for_loop {S R : Type} (N : Nat) (g : Nat → S) (L : Nat → S → Int → Option R) (yes : Option R)
    (step : ∀ n i : Nat, i < N → L (n + 1) (g i) (i : Int) = L n (g (i + 1)) ((i + 1 : Nat) : Int))
    (stop : ∀ n : Nat, L (n + 1) (g N) (N : Int) = yes) : ∀ (d n i : Nat), N = i + d → d < n → L n (g i) (i : Int) = yes
  | 0, n + 1, i, hd, hn => by
    have hi : i = N := by omega
    subst hi
    exact stop n
  | d + 1, n + 1, i, hd, hn => by
    rw [step n i (by omega)]
    exact for_loop N g L yes step stop d n (i + 1) (by omega) (by omega)
theorem for_loop0 {S R : Type} (N : Nat) (g : Nat → S) (L : Nat → S → Int → Option R) (yes : Option R)
    (step : ∀ n i : Nat, i < N → L (n + 1) (g i) (i : Int) = L n (g (i + 1)) ((i + 1 : Nat) : Int))
    (stop : ∀ n : Nat, L (n + 1) (g N) (N : Int) = yes) (hN : N ≤ 9223372036854775807) : L FU (g 0) 0 = yes :=
  for_loop N g L yes step stop N FU 0 (by omega) (by have := FU_pos; omega)
theorem scan_loop0 {S R : Type} (N : Nat) (p : Nat → Bool) (g : Nat → S) (L : Nat → S → Int → Option R) (yes no : Option R)
    (step : ∀ n i : Nat, i < N → L (n + 1) (g i) (i : Int) = if p i = true then L n (g (i + 1)) ((i + 1 : Nat) : Int) else no)
    (stop : ∀ n : Nat, L (n + 1) (g N) (N : Int) = yes) (hN : N ≤ 9223372036854775807) : L FU (g 0) 0 = if (∀ j, j < N → p j = true) then yes else no := by
  have h := scan_loop N p g L yes (fun _ => no) step stop N FU 0 (by omega) (by have := FU_pos; omega)
  refine Eq.trans h ?_
  cases hf : (List.range' 0 N).find? (fun j => !p j) with
  | none => rw [if_pos (fun j hj => find_all.1 hf j (by omega) (by omega))]
  | some j =>
    have h1 := List.find?_some hf
    have h2 := List.mem_of_find?_eq_some hf
    rw [List.mem_range'_1] at h2
    rw [if_neg]
    intro hall
    have := hall j (by omega)
    simp [this] at h1
/-- The same over the elements of a list. -/
theorem list_loop0 {α R : Type} (l : List α) (p : α → Bool) (L : Nat → Int → Option R) (yes no : Option R)
    (step : ∀ (n i : Nat) (x : α), l[i]? = some x → L (n + 1) (i : Int) = if p x = true then L n ((i + 1 : Nat) : Int) else no)
    (stop : ∀ n : Nat, L (n + 1) (l.length : Int) = yes) (hl : l.length ≤ 9223372036854775807) : L FU 0 = if l.all p = true then yes else no := by
  have h := scan_loop0 l.length (fun i => (l[i]?.map p).getD true) (fun _ => ()) (fun n _ i => L n i) yes no (fun n i hi => by
    have hx : l[i]? = some l[i] := by simp [hi]
    rw [step n i _ hx]; simp [hx]) stop hl
  refine Eq.trans h ?_
  by_cases ha : l.all p = true
  · rw [if_pos ha, if_pos]
    intro j hj
    have := List.all_eq_true.1 ha l[j] (List.getElem_mem hj)
    simp [hj, this]
  · rw [if_neg ha, if_neg]
    intro hc
    refine ha (List.all_eq_true.2 fun x hx => ?_)
    obtain ⟨j, hj⟩ := List.getElem?_of_mem hx
    have := hc j (lt_of_at hj)
    simpa [hj] using this
end Go.Tb

set_option linter.unusedVariables false
set_option linter.unusedSimpArgs false
namespace Go.D4
open Go.Tb
theorem sane_eq : law04_sane = some true := by decide +kernel
theorem scan_from {R : Type} (N s : Nat) (p : Nat → Bool) (L : Nat → Int → Option R) (yes no : Option R)
    (step : ∀ n i : Nat, s ≤ i → i < N → L (n + 1) (i : Int) = if p i = true then L n ((i + 1 : Nat) : Int) else no)
    (stop : ∀ n i : Nat, N ≤ i → L (n + 1) (i : Int) = yes) : ∀ (d n i : Nat), s ≤ i → N ≤ i + d → d < n → L n (i : Int) = if (∀ j, j < N → i ≤ j → p j = true) then yes else no
  | 0, n + 1, i, hs, hd, hn => by
    rw [stop n i (by omega), if_pos (fun j h1 h2 => by omega)]
  | d + 1, n + 1, i, hs, hd, hn => by
    by_cases hi : N ≤ i
    · rw [stop n i hi, if_pos (fun j h1 h2 => by omega)]
    · rw [step n i hs (by omega)]
      cases hp : p i
      · rw [if_neg (by simp), if_neg (fun h => by have := h i (by omega) (Nat.le_refl _); simp [hp] at this)]
      · rw [if_pos rfl, scan_from N s p L yes no step stop d n (i + 1) (by omega) (by omega) (by omega)]
        by_cases hall : ∀ j, j < N → i + 1 ≤ j → p j = true
        · rw [if_pos hall, if_pos (fun j h1 h2 => by
            by_cases hj : j = i
            · subst hj; exact hp
            · exact hall j h1 (by omega))]
        · rw [if_neg hall, if_neg (fun h => hall fun j h1 h2 => h j h1 (by omega))]
theorem scan1 {R : Type} (N : Nat) (p : Nat → Bool) (L : Nat → Int → Option R) (yes no : Option R)
    (step : ∀ n i : Nat, 1 ≤ i → i < N → L (n + 1) (i : Int) = if p i = true then L n ((i + 1 : Nat) : Int) else no)
    (stop : ∀ n i : Nat, N ≤ i → L (n + 1) (i : Int) = yes) (hN : N ≤ 9223372036854775807) : L FU 1 = if (∀ j, j < N → 1 ≤ j → p j = true) then yes else no :=
  scan_from N 1 p L yes no step stop N FU 1 (by omega) (by omega) (by have := FU_pos; omega)
theorem for0 {S R : Type} (N : Nat) (g : Nat → S) (L : Nat → S → Int → Option R) (yes : Option R) {s0 : S} (h0 : g 0 = s0)
    (step : ∀ n i : Nat, i < N → L (n + 1) (g i) (i : Int) = L n (g (i + 1)) ((i + 1 : Nat) : Int))
    (stop : ∀ n : Nat, L (n + 1) (g N) (N : Int) = yes) (hN : N ≤ 9223372036854775807) : L FU s0 0 = yes := by
  rw [← h0]; exact for_loop0 N g L yes step stop hN
/-- A library loop: is there an element for which f holds? -/
theorem ContainsFunc_eq (l : List Int) (f : Int → Option Bool) (q : Int → Bool) (hf : ∀ x, f x = some (q x)) (hl : l.length ≤ 1000000) : slices_ContainsFunc_int l f = some (l.any q) := by
  unfold slices_ContainsFunc_int slices_IndexFunc_int
  have h := scan_loop l.length (fun i => (l[i]?.map fun x => !q x).getD true) (fun _ => ()) (fun n _ i => slices_IndexFunc_int_L1 l f n i) (some (-1)) (fun j => some (j : Int)) (fun n i hi => ?_) (fun n => ?_) l.length FU 0 (by omega) (by have := FU_pos; omega)
  · rw [bnd_eq (x := match (List.range' 0 l.length).find? (fun j => !((l[j]?.map fun x => !q x).getD true)) with | none => -1 | some j => (j : Int)) (by
      refine Eq.trans h ?_
      cases (List.range' 0 l.length).find? (fun j => !((l[j]?.map fun x => !q x).getD true)) <;> rfl)]
    congr 1
    cases hf : (List.range' 0 l.length).find? (fun j => !((l[j]?.map fun x => !q x).getD true)) with
    | none =>
      have := find_all.1 hf
      have ha : l.any q = false := List.any_eq_false.2 fun x hx => by
        obtain ⟨j, hj⟩ := List.getElem?_of_mem hx
        have := this j (by omega) (by have := lt_of_at hj; omega)
        simpa [hj] using this
      simp [ha]
    | some j =>
      have h1 := List.find?_some hf
      have h2 := List.mem_of_find?_eq_some hf
      rw [List.mem_range'_1] at h2
      have hx : l[j]? = some l[j] := List.getElem?_eq_getElem (by omega)
      rw [hx] at h1
      have ha : l.any q = true := by
        rw [List.any_eq_true]
        exact ⟨l[j], List.getElem_mem _, by simpa using h1⟩
      simp [ha]
  · show slices_IndexFunc_int_B1 l f (slices_IndexFunc_int_L1 l f n) _ = _
    have hx : l[i]? = some l[i] := by simp [hi]
    unfold slices_IndexFunc_int_B1
    rw [if_pos (by omega), ix_nat hx, bnd_eq (hf _), gd_pos (by omega), hx]
    cases h : q l[i] <;> simp [h]
  · show slices_IndexFunc_int_B1 l f (slices_IndexFunc_int_L1 l f n) _ = _
    unfold slices_IndexFunc_int_B1
    rw [if_neg (by omega)]; rfl
def within (n lo hi : Int) : Bool := decide (lo ≤ n) && decide (n ≤ hi)
theorem within_iff {n lo hi : Int} : within n lo hi = true ↔ lo ≤ n ∧ n ≤ hi := by unfold within; simp
theorem from_eq (n lo hi : Int) : cut_from n lo hi = some (within n lo hi) := by
  unfold cut_from within
  by_cases h : lo ≤ n <;> simp [h]
def dep (b : Bog) : Int := ((b.worth[0]?.getD []).length : Int)
theorem ix0 {α β : Type} {l : List α} {k : α → Option β} {x : α} (h : l[0]? = some x) : ix l 0 k = k x := ix_nat (i := 0) h
theorem depth_eq {b : Bog} (h : 1 ≤ b.worth.length) : cut_depth b = some (dep b) := by
  have hx : b.worth[0]? = some b.worth[0] := by simp
  unfold cut_depth dep
  rw [ix0 hx, hx]; rfl
theorem rdepth_eq {b : Bog} (h : 1 ≤ b.worth.length) : ref04_depth b = some (dep b) := by
  have hx : b.worth[0]? = some b.worth[0] := by simp
  unfold ref04_depth dep
  rw [ix0 hx, hx]; rfl
def okW (w : Int) : Bool := within w (-50) 50
def okCol (d : Int) (c : List Int) : Bool := decide ((c.length : Int) = d) && c.all okW
def okB (b : Bog) : Bool := within b.worth.length 1 6 && within (dep b) 1 4 && b.worth.all (okCol (dep b))
def validate (b : Bog) : Int := if okB b = true then 0 else 1
def Short (b : Bog) : Prop := b.worth.length ≤ 50 ∧ ∀ c ∈ b.worth, c.length ≤ 50
theorem Validate_1_eq (w : Int) : cut_Validate_1 w = some (!okW w) := by
  unfold cut_Validate_1; rw [bnd_eq (from_eq _ _ _)]; rfl
theorem any_not {l : List Int} : (l.any fun x => !okW x) = !(l.all okW) := by
  induction l with
  | nil => rfl
  | cons x r ih => simp [ih]
theorem Validate_eq {b : Bog} (hs : Short b) : cut_Validate b = some (validate b) := by
  unfold cut_Validate validate okB
  rw [bnd_eq (from_eq _ _ _)]
  cases h1 : within b.worth.length 1 6
  · rw [if_neg (by simp)]; unfold cut_Validate_k3; simp
  have h1' := within_iff.1 h1
  rw [if_pos rfl, bnd_eq (depth_eq (by omega)), bnd_eq (from_eq _ _ _)]
  cases h2 : within (dep b) 1 4
  · unfold cut_Validate_k3; simp
  unfold cut_Validate_k3
  rw [if_neg (by simp), list_loop0 b.worth (okCol (dep b)) (cut_Validate_L1 b) (some 0) (some 1) (fun n i x hx => ?_) (fun n => ?_) (by omega)]
  · cases b.worth.all (okCol (dep b)) <;> simp
  · have := lt_of_at hx
    have hxl := hs.2 x (List.mem_of_getElem? hx)
    show cut_Validate_B1 b (cut_Validate_L1 b n) _ = _
    unfold cut_Validate_B1 okCol
    rw [if_pos (by omega), ix_nat hx, bnd_eq (depth_eq (by omega))]
    unfold cut_Validate_k2
    by_cases hd : (x.length : Int) = dep b
    · rw [if_pos hd, bnd_eq (ContainsFunc_eq x _ _ Validate_1_eq (by omega)), any_not, gd_pos (by omega)]
      cases x.all okW <;> simp [hd]
    · rw [if_neg hd, gd_pos (by omega)]; simp [hd]
  · show cut_Validate_B1 b (cut_Validate_L1 b n) _ = _
    unfold cut_Validate_B1
    rw [if_neg (by omega)]; rfl
theorem rValidate_eq {b : Bog} (hs : Short b) : ref04_Validate b = some (validate b) := by
  unfold ref04_Validate validate okB
  by_cases h1 : (b.worth.length : Int) < 1
  · have : within b.worth.length 1 6 = false := by simp [within]; omega
    rw [if_pos h1, this]; unfold ref04_Validate_k4; simp
  rw [if_neg h1]
  by_cases h2 : (6 : Int) < b.worth.length
  · have : within b.worth.length 1 6 = false := by simp [within]; omega
    rw [if_pos h2, this]; unfold ref04_Validate_k4; simp
  rw [if_neg h2]
  have h3 : within b.worth.length 1 6 = true := within_iff.2 (by omega)
  have h0 : b.worth[0]? = some b.worth[0] := by simp
  have hd : dep b = (b.worth[0].length : Int) := by unfold dep; rw [h0]; rfl
  rw [ix0 h0, ix0 h0, h3, ← hd]
  by_cases h4 : dep b < 1
  · have : within (dep b) 1 4 = false := by simp [within]; omega
    rw [if_pos h4, this]; unfold ref04_Validate_k4; simp
  rw [if_neg h4]
  by_cases h5 : 4 < dep b
  · have : within (dep b) 1 4 = false := by simp [within]; omega
    simp only [h5, this]; unfold ref04_Validate_k4; simp
  have h6 : within (dep b) 1 4 = true := within_iff.2 (by omega)
  simp only [h5, h6, decide_false, Bool.true_and]
  unfold ref04_Validate_k4
  rw [if_neg (by simp), list_loop0 b.worth (okCol (dep b)) (ref04_Validate_L2 b) (some 0) (some 1) (fun n i x hx => ?_) (fun n => ?_) (by omega)]
  · cases b.worth.all (okCol (dep b)) <;> simp
  · have := lt_of_at hx
    have hxl := hs.2 x (List.mem_of_getElem? hx)
    show ref04_Validate_B2 b (ref04_Validate_L2 b n) _ = _
    unfold ref04_Validate_B2 okCol
    rw [if_pos (by omega), ix_nat hx, ix0 h0, ← hd]
    by_cases hdd : (x.length : Int) = dep b
    · rw [if_pos hdd, list_loop0 x okW (ref04_Validate_L1 b i (ref04_Validate_L2 b n)) (ref04_Validate_L2 b n ((i + 1 : Nat) : Int)) (some 1) (fun m j v hv => ?_) (fun m => ?_) (by omega)]
      · cases x.all okW <;> simp [hdd]
      · have := lt_of_at hv
        show ref04_Validate_B1 b i (ref04_Validate_L2 b n) (ref04_Validate_L1 b i (ref04_Validate_L2 b n) m) _ = _
        unfold ref04_Validate_B1
        rw [ix_nat hx, if_pos (by omega), ix_nat hx, ix_nat hv]
        unfold ref04_Validate_k3
        by_cases hb : (50 : Int) < v
        · rw [if_pos hb]; simp [okW, within]; omega
        · rw [if_neg hb, ix_nat hx, ix_nat hv, gd_pos (by omega)]
          by_cases hc : v < -50
          · simp [hc, okW, within]; omega
          · have : okW v = true := within_iff.2 (by omega)
            simp [hc, this]
      · show ref04_Validate_B1 b i (ref04_Validate_L2 b n) (ref04_Validate_L1 b i (ref04_Validate_L2 b n) m) _ = _
        unfold ref04_Validate_B1
        rw [ix_nat hx, if_neg (by omega)]
        unfold ref04_Validate_k2
        rw [gd_pos (by omega)]; rfl
    · rw [if_neg hdd]; simp [hdd]
  · show ref04_Validate_B2 b (ref04_Validate_L2 b n) _ = _
    unfold ref04_Validate_B2
    rw [if_neg (by omega)]; rfl
end Go.D4

set_option linter.unusedVariables false
set_option linter.unusedSimpArgs false
namespace Go.D4
open Go.Tb
def gi (l : List Int) (i : Nat) : Int := l.getD i 0
theorem gi_of {l : List Int} {i : Nat} {x : Int} (h : l[i]? = some x) : gi l i = x := by simp [gi, List.getD, h]
def rightB (h : List Int) : Bool := decide (∀ j, j < h.length → 1 ≤ j → within (gi h j - gi h (j - 1)) (-1) 1 = true)
def okL (b : Bog) (h : List Int) : Bool := decide ((h.length : Int) = b.worth.length) && h.all (fun n => within n 0 (dep b))
def listE (b : Bog) (h : List Int) : Int := if validate b = 0 then (if okL b h = true then 0 else 1) else validate b
def hollowE (b : Bog) (h : List Int) : Int := if listE b h = 0 then (if rightB h = true then 0 else 6) else listE b h
structure Ok (b : Bog) : Prop where
  n1 : 1 ≤ b.worth.length
  n6 : b.worth.length ≤ 6
  d1 : 1 ≤ dep b
  d4 : dep b ≤ 4
  col : ∀ c ∈ b.worth, (c.length : Int) = dep b ∧ ∀ w ∈ c, -50 ≤ w ∧ w ≤ 50
theorem okB_iff {b : Bog} : okB b = true ↔ Ok b := by
  unfold okB
  simp only [Bool.and_eq_true, within_iff, List.all_eq_true, okCol, decide_eq_true_eq, okW]
  constructor
  · rintro ⟨⟨h1, h2⟩, h3⟩
    exact ⟨by omega, by omega, h2.1, h2.2, h3⟩
  · intro h
    exact ⟨⟨⟨by have := h.n1; omega, by have := h.n6; omega⟩, h.d1, h.d4⟩, h.col⟩
theorem val0 {b : Bog} : validate b = 0 ↔ Ok b := by
  rw [← okB_iff]; unfold validate; split <;> simp_all
theorem okL_iff {b : Bog} {h : List Int} : okL b h = true ↔ h.length = b.worth.length ∧ ∀ x ∈ h, 0 ≤ x ∧ x ≤ dep b := by
  unfold okL
  simp only [Bool.and_eq_true, decide_eq_true_eq, List.all_eq_true, within_iff]
  constructor
  · rintro ⟨h1, h2⟩; exact ⟨by omega, h2⟩
  · rintro ⟨h1, h2⟩; exact ⟨by omega, h2⟩
theorem list0 {b : Bog} {h : List Int} : listE b h = 0 ↔ Ok b ∧ okL b h = true := by
  unfold listE
  constructor
  · intro h0
    split at h0
    · rename_i hv
      split at h0
      · rename_i ho; exact ⟨val0.1 hv, ho⟩
      · cases h0
    · rename_i hv; exact absurd h0 hv
  · rintro ⟨h1, h2⟩
    rw [if_pos (val0.2 h1), if_pos h2]
theorem hollow0 {b : Bog} {h : List Int} : hollowE b h = 0 ↔ Ok b ∧ okL b h = true ∧ rightB h = true := by
  unfold hollowE
  constructor
  · intro h0
    split at h0
    · rename_i hv
      split at h0
      · rename_i ho; exact ⟨(list0.1 hv).1, (list0.1 hv).2, ho⟩
      · cases h0
    · rename_i hv; exact absurd h0 hv
  · rintro ⟨h1, h2, h3⟩
    rw [if_pos (list0.2 ⟨h1, h2⟩), if_pos h3]
theorem isList_eq {b : Bog} {h : List Int} (hs : Short b) (hl : h.length ≤ 1000000) : cut_isList b h = some (listE b h) := by
  unfold cut_isList listE
  rw [bnd_eq (Validate_eq hs)]
  by_cases hv : validate b = 0
  · have hb := val0.1 hv
    rw [if_pos hv, if_pos hv]
    have hf : ∀ x, cut_isList_1 b x = some (!within x 0 (dep b)) := fun x => by
      unfold cut_isList_1
      rw [bnd_eq (depth_eq hb.n1), bnd_eq (from_eq _ _ _)]
    have hn : (h.any fun x => !within x 0 (dep b)) = !(h.all fun x => within x 0 (dep b)) := by
      induction h with
      | nil => rfl
      | cons x r ih => simp only [List.any_cons, List.all_cons, ih (by simp at hl; omega), Bool.not_and]
    by_cases hln : (h.length : Int) = b.worth.length
    · rw [if_pos hln, bnd_eq (ContainsFunc_eq h _ _ hf hl), hn]
      unfold cut_isList_k1 okL
      cases h.all fun x => within x 0 (dep b) <;> simp [hln]
    · rw [if_neg hln]
      unfold cut_isList_k1 okL
      simp [hln]
  · rw [if_neg hv, if_neg hv]
theorem numbers_eq {b : Bog} {h : List Int} (hs : Short b) (hl : h.length ≤ 1000000) : ref04_numbers b h = some (listE b h) := by
  unfold ref04_numbers listE
  rw [bnd_eq (rValidate_eq hs)]
  by_cases hv : validate b = 0
  · have hb := val0.1 hv
    rw [if_pos hv, if_pos hv]
    by_cases hln : (h.length : Int) = b.worth.length
    · rw [if_pos hln, list_loop0 h (fun n => within n 0 (dep b)) (ref04_numbers_L1 b h) (some 0) (some 1) (fun n i x hx => ?_) (fun n => ?_) (by omega)]
      · unfold okL; cases h.all fun n => within n 0 (dep b) <;> simp [hln]
      · have := lt_of_at hx
        show ref04_numbers_B1 b h (ref04_numbers_L1 b h n) _ = _
        unfold ref04_numbers_B1 ref04_numbers_k2
        rw [if_pos (by omega), ix_nat hx]
        by_cases h0 : x < 0
        · rw [if_pos h0]; simp [within]; omega
        · rw [if_neg h0, ix_nat hx, bnd_eq (rdepth_eq hb.n1), gd_pos (by omega)]
          by_cases h1 : dep b < x
          · simp [h1, within]; omega
          · have : within x 0 (dep b) = true := within_iff.2 (by omega)
            simp [h1, this]
      · show ref04_numbers_B1 b h (ref04_numbers_L1 b h n) _ = _
        unfold ref04_numbers_B1
        rw [if_neg (by omega)]; rfl
    · rw [if_neg hln]; simp [okL, hln]
  · rw [if_neg hv, if_neg hv]
theorem right_eq {h : List Int} (hl : h.length ≤ 1000000) (hb : ∀ x ∈ h, -1000 ≤ x ∧ x ≤ 1000) : cut_right h = some (rightB h) := by
  unfold cut_right rightB
  rw [scan1 h.length (fun j => within (gi h j - gi h (j - 1)) (-1) 1) (cut_right_L1 h) (some true) (some false) (fun n i h1 hi => ?_) (fun n i hi => ?_) (by omega)]
  · by_cases hp : ∀ j, j < h.length → 1 ≤ j → within (gi h j - gi h (j - 1)) (-1) 1 = true
    · rw [if_pos hp, decide_eq_true hp]
    · rw [if_neg hp, decide_eq_false hp]
  · have hx : h[i]? = some h[i] := by simp [hi]
    have hy : h[i - 1]? = some h[i - 1] := List.getElem?_eq_getElem (by omega)
    have bx := hb h[i] (List.getElem_mem _)
    have by_ := hb h[i - 1] (List.getElem_mem _)
    show cut_right_B1 h (cut_right_L1 h n) _ = _
    unfold cut_right_B1
    rw [if_pos (by omega), ix_nat hx, gd_pos (by omega), show ((i : Int) - 1) = ((i - 1 : Nat) : Int) by omega, ix_nat hy, gd_pos (by omega), bnd_eq (from_eq _ _ _), gi_of hx, gi_of hy, gd_pos (by omega)]
    rfl
  · show cut_right_B1 h (cut_right_L1 h n) _ = _
    unfold cut_right_B1
    rw [if_neg (by omega)]; rfl
theorem rright_eq {h : List Int} (hl : h.length ≤ 1000000) (hb : ∀ x ∈ h, -1000 ≤ x ∧ x ≤ 1000) : ref04_right h = some (rightB h) := by
  unfold ref04_right rightB
  rw [scan1 h.length (fun j => within (gi h j - gi h (j - 1)) (-1) 1) (ref04_right_L1 h) (some true) (some false) (fun n i h1 hi => ?_) (fun n i hi => ?_) (by omega)]
  · by_cases hp : ∀ j, j < h.length → 1 ≤ j → within (gi h j - gi h (j - 1)) (-1) 1 = true
    · rw [if_pos hp, decide_eq_true hp]
    · rw [if_neg hp, decide_eq_false hp]
  · have hx : h[i]? = some h[i] := by simp [hi]
    have hy : h[i - 1]? = some h[i - 1] := List.getElem?_eq_getElem (by omega)
    have bx := hb h[i] (List.getElem_mem _)
    have by_ := hb h[i - 1] (List.getElem_mem _)
    show ref04_right_B1 h (ref04_right_L1 h n) _ = _
    unfold ref04_right_B1 ref04_right_k2
    rw [if_pos (by omega), ix_nat hx, gd_pos (by omega), show ((i : Int) - 1) = ((i - 1 : Nat) : Int) by omega, ix_nat hy, gd_pos (by omega), gi_of hx, gi_of hy]
    by_cases h1 : (1 : Int) < h[i] - h[i - 1]
    · rw [if_pos h1]; simp [within]; omega
    · rw [if_neg h1, gd_pos (by omega), ix_nat hy, ix_nat hx, gd_pos (by omega), gd_pos (by omega)]
      by_cases h2 : (1 : Int) < h[i - 1] - h[i]
      · simp [h2, within]; omega
      · have : within (h[i] - h[i - 1]) (-1) 1 = true := within_iff.2 (by omega)
        simp [h2, this]
  · show ref04_right_B1 h (ref04_right_L1 h n) _ = _
    unfold ref04_right_B1
    rw [if_neg (by omega)]; rfl
theorem CheckHollow_eq {b : Bog} {h : List Int} (hs : Short b) (hl : h.length ≤ 1000000) : cut_CheckHollow b h = some (hollowE b h) := by
  unfold cut_CheckHollow hollowE
  rw [bnd_eq (isList_eq hs hl)]
  by_cases h0 : listE b h = 0
  · have ⟨hb, ho⟩ := list0.1 h0
    have hx := (okL_iff.1 ho).2
    rw [if_pos h0, if_pos h0, bnd_eq (right_eq hl (fun x hm => by have := hx x hm; have := hb.d4; omega))]
    cases rightB h <;> rfl
  · rw [if_neg h0, if_neg h0]
theorem rCheckHollow_eq {b : Bog} {h : List Int} (hs : Short b) (hl : h.length ≤ 1000000) : ref04_CheckHollow b h = some (hollowE b h) := by
  unfold ref04_CheckHollow hollowE
  rw [bnd_eq (numbers_eq hs hl)]
  by_cases h0 : listE b h = 0
  · have ⟨hb, ho⟩ := list0.1 h0
    have hx := (okL_iff.1 ho).2
    rw [if_pos h0, if_pos h0, bnd_eq (rright_eq hl (fun x hm => by have := hx x hm; have := hb.d4; omega))]
    cases rightB h <;> rfl
  · rw [if_neg h0, if_neg h0]
def isum : List Int → Int
  | [] => 0
  | x :: r => x + isum r
def colW (b : Bog) (c : Nat) (n : Int) : Int := isum ((b.worth.getD c []).take n.toNat)
def wsum (b : Bog) (h : List Int) : Nat → Int
  | 0 => 0
  | c + 1 => wsum b h c + colW b c (gi h c)
def longB (b : Bog) (ls : List (List Int)) : Bool := !(ls.all fun l => !decide ((100 : Int) < l.length)) || (!(b.worth.all fun l => !decide ((50 : Int) < l.length)) || decide ((50 : Int) < b.worth.length))
theorem Long_eq {b : Bog} {ls : List (List Int)} (h1 : ls.length ≤ 9223372036854775807) (h2 : b.worth.length ≤ 9223372036854775807) : law04_Long b ls = some (longB b ls) := by
  unfold law04_Long longB
  rw [list_loop0 ls (fun l => !decide ((100 : Int) < l.length)) (law04_Long_L2 b ls) (law04_Long_k2 b) (some true) (fun n i x hx => ?_) (fun n => ?_) h1]
  · cases ls.all fun l => !decide ((100 : Int) < l.length)
    · simp
    · simp only [if_true, Bool.not_true, Bool.false_or]
      unfold law04_Long_k2
      rw [list_loop0 b.worth (fun l => !decide ((50 : Int) < l.length)) (law04_Long_L1 b) (law04_Long_k1 b) (some true) (fun n i x hx => ?_) (fun n => ?_) h2]
      · cases b.worth.all fun l => !decide ((50 : Int) < l.length)
        · simp
        · simp [law04_Long_k1]
      · have := lt_of_at hx
        show law04_Long_B1 b (law04_Long_L1 b n) _ = _
        unfold law04_Long_B1
        rw [if_pos (by omega), ix_nat hx, gd_pos (by omega)]
        by_cases h : (50 : Int) < x.length <;> simp [h]
      · show law04_Long_B1 b (law04_Long_L1 b n) _ = _
        unfold law04_Long_B1
        rw [if_neg (by omega)]
  · have := lt_of_at hx
    show law04_Long_B2 b ls (law04_Long_L2 b ls n) _ = _
    unfold law04_Long_B2
    rw [if_pos (by omega), ix_nat hx, gd_pos (by omega)]
    by_cases h : (100 : Int) < x.length <;> simp [h]
  · show law04_Long_B2 b ls (law04_Long_L2 b ls n) _ = _
    unfold law04_Long_B2
    rw [if_neg (by omega)]
theorem long_short {b : Bog} {ls : List (List Int)} (h : longB b ls = false) : Short b ∧ ∀ l ∈ ls, l.length ≤ 100 := by
  unfold longB at h
  simp only [Bool.or_eq_false_iff, Bool.not_eq_false', List.all_eq_true, Bool.not_eq_true', decide_eq_false_iff_not] at h
  obtain ⟨h1, h2, h3⟩ := h
  exact ⟨⟨by omega, fun c hc => by have := h2 c hc; omega⟩, fun l hl => by have := h1 l hl; omega⟩
end Go.D4

set_option linter.unusedVariables false
set_option linter.unusedSimpArgs false
namespace Go.D4
open Go.Tb
theorem Clone_eq {l : List Int} (h : l.length ≤ 1000000) : slices_Clone_int l = some l := by
  unfold slices_Clone_int
  rw [gd_pos (by simpa using h)]; rfl
def bump (h : List Int) (c : Nat) : List Int := h.set c (gi h c + 1)
def openB (b : Bog) (h : List Int) (c : Nat) : Bool := decide (gi h c + 1 ≤ dep b) && rightB (bump h c)
theorem gi_mem {h : List Int} {c : Nat} (hc : c < h.length) : gi h c ∈ h := by
  have : h[c]? = some h[c] := by simp [hc]
  rw [gi_of this]; exact List.getElem_mem hc
theorem gi_at {h : List Int} {c : Nat} (hc : c < h.length) : h[c]? = some (gi h c) := by
  have : h[c]? = some h[c] := by simp [hc]
  rw [gi_of this]; exact this
theorem SameInts_self {l : List Int} (hl : l.length ≤ 1000000) : ref04_SameInts l l = some true := by
  unfold ref04_SameInts
  rw [if_pos rfl, list_loop0 l (fun _ => true) (ref04_SameInts_L1 l l) (some true) (some false) (fun n i x hx => ?_) (fun n => ?_) (by omega)]
  · simp
  · have := lt_of_at hx
    show ref04_SameInts_B1 l l (ref04_SameInts_L1 l l n) _ = _
    unfold ref04_SameInts_B1
    rw [if_pos (by omega), ix_nat hx, ix_nat hx, if_pos rfl, gd_pos (by omega), if_pos rfl]; rfl
  · show ref04_SameInts_B1 l l (ref04_SameInts_L1 l l n) _ = _
    unfold ref04_SameInts_B1
    rw [if_neg (by omega)]; rfl
theorem bump_hollow {b : Bog} {h : List Int} (hb : Ok b) (ho : okL b h = true) {c : Nat} (hc : c < h.length) (hop : openB b h c = true) : hollowE b (bump h c) = 0 := by
  unfold openB at hop
  simp only [Bool.and_eq_true, decide_eq_true_eq] at hop
  refine hollow0.2 ⟨hb, okL_iff.2 ⟨by simp [bump, (okL_iff.1 ho).1], fun x hx => ?_⟩, hop.2⟩
  unfold bump at hx
  rcases List.mem_or_eq_of_mem_set hx with h1 | h1
  · exact (okL_iff.1 ho).2 x h1
  · have := (okL_iff.1 ho).2 _ (gi_mem hc)
    omega
end Go.D4

set_option linter.unusedVariables false
set_option linter.unusedSimpArgs false
namespace Go.D4
open Go.Tb
def inCols (b : Bog) (c : Int) : Bool := within c 0 ((b.worth.length : Int) - 1)
/-- The hollow after the first i columns of an order (a column that is not open changes nothing). -/
def ordN (b : Bog) (o : List Int) : Nat → List Int
  | 0 => List.replicate b.worth.length 0
  | i + 1 => if openB b (ordN b o i) (gi o i).toNat = true then bump (ordN b o i) (gi o i).toNat else ordN b o i
theorem okL_zero {b : Bog} (hb : Ok b) : okL b (List.replicate b.worth.length 0) = true :=
  okL_iff.2 ⟨by simp, fun x hx => by have := List.eq_of_mem_replicate hx; have := hb.d1; omega⟩
def ordP (b : Bog) (o : List Int) (i : Nat) : Bool := openB b (ordN b o i) (gi o i).toNat
def orderR (b : Bog) (o : List Int) : List Int × Int × Int :=
  match (List.range' 0 o.length).find? (fun j => !ordP b o j) with
  | none => (ordN b o o.length, (o.length : Int), 0)
  | some j => ([], (j : Int), 6)
def checkR (b : Bog) (o : List Int) : List Int × Int × Int :=
  if validate b = 0 then (if (24 : Int) < o.length then ([], 0, 3) else if o.all (inCols b) = true then orderR b o else ([], 0, 4)) else ([], 0, validate b)
end Go.D4

set_option linter.unusedVariables false
set_option linter.unusedSimpArgs false
namespace Go.D4
open Go.Tb
theorem rightB_iff {h : List Int} : rightB h = true ↔ ∀ j, j < h.length → 1 ≤ j → -1 ≤ gi h j - gi h (j - 1) ∧ gi h j - gi h (j - 1) ≤ 1 := by
  unfold rightB
  simp only [decide_eq_true_eq, within_iff]
end Go.D4

set_option linter.unusedVariables false
set_option linter.unusedSimpArgs false
namespace Go.D4
open Go.Tb
structure Inv (b : Bog) (h at_ : List Int) (r : Nat) : Prop where
  ok : Ok b
  lh : okL b h = true
  rh : rightB h = true
  la : okL b at_ = true
  ra : rightB at_ = true
  le : ∀ c, c < h.length → gi at_ c ≤ gi h c
  r_ : isum h - isum at_ = (r : Int)
theorem Inv.len {b : Bog} {h at_ : List Int} {r : Nat} (i : Inv b h at_ r) : at_.length = h.length ∧ h.length ≤ 6 := by
  have := (okL_iff.1 i.lh).1; have := (okL_iff.1 i.la).1; have := i.ok.n6
  omega
theorem isum_bump : ∀ {l : List Int} {c : Nat}, c < l.length → isum (bump l c) = isum l + 1
  | x :: r, 0, _ => by simp [bump, isum, gi]; omega
  | x :: r, c + 1, h => by
    have := isum_bump (l := r) (c := c) (by simpa using h)
    simp only [bump, isum, List.set_cons_succ] at this ⊢
    have e : gi (x :: r) (c + 1) = gi r c := by simp [gi, List.getD]
    rw [e]; omega
theorem isum_le : ∀ {l m : List Int}, l.length = m.length → (∀ c, c < m.length → gi l c ≤ gi m c) → isum l ≤ isum m ∧ (isum l = isum m → l = m)
  | [], [], _, _ => by simp
  | x :: r, y :: s, hl, h => by
    have h0 := h 0 (by simp)
    have ih := isum_le (l := r) (m := s) (by simpa using hl) (fun c hc => by
      have := h (c + 1) (by simpa using hc)
      simpa [gi, List.getD] using this)
    simp only [gi, List.getD, List.getElem?_cons_zero, Option.getD_some] at h0
    simp only [isum]
    refine ⟨by omega, fun e => ?_⟩
    have e1 : x = y := by omega
    have e2 := ih.2 (by omega)
    rw [e1, e2]
theorem gi_bump {l : List Int} {c j : Nat} (hc : c < l.length) : gi (bump l c) j = if j = c then gi l c + 1 else gi l j := by
  unfold bump gi
  simp only [List.getD, List.getElem?_set]
  by_cases h : c = j
  · subst h; simp [hc]
  · rw [if_neg h, if_neg (fun e => h e.symm)]
theorem Inv.next {b : Bog} {h at_ : List Int} {r c : Nat} (i : Inv b h at_ (r + 1)) (hc : c < at_.length) (hlt : gi at_ c < gi h c) (hop : openB b at_ c = true) : Inv b h (bump at_ c) r := by
  have hh := hollow0.1 (bump_hollow i.ok i.la hc hop)
  refine ⟨i.ok, i.lh, i.rh, hh.2.1, hh.2.2, fun j hj => ?_, ?_⟩
  · rw [gi_bump hc]
    split
    · rename_i e; subst e; omega
    · exact i.le j hj
  · rw [isum_bump hc]; have := i.r_; omega
theorem Inv.zero {b : Bog} {h : List Int} (h0 : hollowE b h = 0) : Inv b h (List.replicate h.length 0) (isum h).toNat ∧ (isum h).toNat ≤ 24 := by
  have ⟨hb, ho, hr⟩ := hollow0.1 h0
  have ⟨hl, hx⟩ := okL_iff.1 ho
  have g0 : ∀ c, gi (List.replicate h.length 0) c = 0 := fun c => by
    unfold gi; simp only [List.getD, List.getElem?_replicate]; split <;> rfl
  have s0 : ∀ n, isum (List.replicate n 0) = 0 := fun n => by
    induction n with
    | zero => rfl
    | succ n ih => simp [List.replicate_succ, isum, ih]
  have nn : 0 ≤ isum h ∧ isum h ≤ 4 * (h.length : Int) := by
    have hd := hb.d4
    clear hl ho hr h0 g0
    induction h with
    | nil => simp [isum]
    | cons x r ih =>
      have := ih (fun y hy => hx y (List.mem_cons_of_mem _ hy))
      have := hx x (List.mem_cons_self ..)
      simp only [isum, List.length_cons]; omega
  have h6 := hb.n6
  refine ⟨⟨hb, ho, hr, by rw [hl]; exact okL_zero hb, rightB_iff.2 fun j hj h1 => by rw [g0, g0]; omega, fun c hc => ?_, ?_⟩, by omega⟩
  · rw [g0]; exact (hx _ (gi_mem hc)).1
  · rw [s0]; omega
theorem Same_eq {l m : List Int} (hl : l.length ≤ 1000) (hm : m.length = l.length) : ref04_SameInts l m = some (decide (l = m)) := by
  unfold ref04_SameInts
  rw [if_pos (by omega), list_loop0 (List.range l.length) (fun i => decide (gi l i = gi m i)) (ref04_SameInts_L1 l m) (some true) (some false) (fun n i x hx => ?_) (fun n => ?_) (by simp; omega)]
  · by_cases h : l = m
    · rw [if_pos (List.all_eq_true.2 fun i _ => by rw [h]; simp)]; simp [h]
    · rw [if_neg (fun ha => h (List.ext_getElem? fun i => ?_))]; simp [h]
      by_cases hi : i < l.length
      · have := List.all_eq_true.1 ha i (List.mem_range.2 hi)
        rw [gi_at hi, gi_at (by omega)]; simpa using this
      · rw [List.getElem?_eq_none (by omega), List.getElem?_eq_none (by omega)]
  · have hi := lt_of_at hx
    simp at hi
    have e : x = i := by simp [hi] at hx; exact hx.symm
    subst e
    show ref04_SameInts_B1 l m (ref04_SameInts_L1 l m n) _ = _
    unfold ref04_SameInts_B1
    rw [if_pos (by omega), ix_nat (gi_at hi), ix_nat (gi_at (by omega)), gd_pos (by omega)]
    by_cases h : gi l x = gi m x <;> simp [h]
  · show ref04_SameInts_B1 l m (ref04_SameInts_L1 l m n) _ = _
    unfold ref04_SameInts_B1
    rw [List.length_range, if_neg (by omega)]; rfl
theorem Inv.done {b : Bog} {h at_ : List Int} (i : Inv b h at_ 0) : at_ = h := by
  have ⟨hl, _⟩ := i.len
  exact (isum_le hl i.le).2 (by have := i.r_; omega)
end Go.D4

set_option linter.unusedVariables false
set_option linter.unusedSimpArgs false
namespace Go.D4
open Go.Tb
/-- What is known of an order that has been made so far. -/
structure Led (b : Bog) (out at_ : List Int) : Prop where
  cols : ∀ x ∈ out, inCols b x = true
  all : ∀ j, j < out.length → ordP b out j = true
  to : ordN b out out.length = at_
theorem ordN_pre {b : Bog} {o s : List Int} : ∀ i, i ≤ o.length → ordN b (o ++ s) i = ordN b o i
  | 0, _ => rfl
  | i + 1, h => by
    have ih := ordN_pre (b := b) (o := o) (s := s) i (by omega)
    have e : gi (o ++ s) i = gi o i := by
      have hlt : i < o.length := by omega
      unfold gi
      simp only [List.getD, List.getElem?_append_left hlt]
    show (if openB b (ordN b (o ++ s) i) (gi (o ++ s) i).toNat = true then _ else _) = (if _ then _ else _)
    rw [ih, e]
theorem Led.next {b : Bog} {out at_ : List Int} {c : Nat} (l : Led b out at_) (hc : c < b.worth.length) (hop : openB b at_ c = true) : Led b (out ++ [(c : Int)]) (bump at_ c) := by
  have e : gi (out ++ [(c : Int)]) out.length = (c : Int) := gi_of (by simp)
  have e2 : ordN b (out ++ [(c : Int)]) out.length = at_ := by rw [ordN_pre _ (Nat.le_refl _), l.to]
  refine ⟨fun x hx => ?_, fun j hj => ?_, ?_⟩
  · rcases List.mem_append.1 hx with h | h
    · exact l.cols x h
    · have : x = (c : Int) := by simpa using h
      rw [this]; exact within_iff.2 (by omega)
  · by_cases hjl : j < out.length
    · have h1 := l.all j hjl
      unfold ordP at h1 ⊢
      have e3 : gi (out ++ [(c : Int)]) j = gi out j := by
        unfold gi
        simp only [List.getD, List.getElem?_append_left hjl]
      rw [ordN_pre _ (by omega), e3]; exact h1
    · have : j = out.length := by simp at hj; omega
      subst this
      unfold ordP
      rw [e2, e]; exact hop
  · rw [List.length_append, List.length_singleton]
    show (if openB b (ordN b (out ++ [(c : Int)]) out.length) (gi (out ++ [(c : Int)]) out.length).toNat = true then _ else _) = _
    rw [e2, e]
    have et : ((c : Int)).toNat = c := by omega
    rw [et, if_pos hop]
theorem Led.check {b : Bog} {o h : List Int} (hb : Ok b) (l : Led b o h) (h24 : o.length ≤ 24) : checkR b o = (h, (o.length : Int), 0) := by
  unfold checkR orderR
  rw [if_pos (val0.2 hb), if_neg (by omega), if_pos (List.all_eq_true.2 l.cols)]
  have hf : (List.range' 0 o.length).find? (fun j => !ordP b o j) = none := find_all.2 fun j _ hj => l.all j (by omega)
  rw [hf, l.to]
end Go.D4

set_option linter.unusedVariables false
set_option linter.unusedSimpArgs false
namespace Go.D4
open Go.Tb
/-- A bog of n columns with d blocks each. -/
def shape (n d : Nat) : Bog := ⟨List.replicate n (List.replicate d 0)⟩
def a6 (x : Arr6) : List Int := [x.at0, x.at1, x.at2, x.at3, x.at4, x.at5]
def stepOk (h : List Int) (x : Int) : Bool := match h.getLast? with | none => true | some y => within (x - y) (-1) 1
def specL (d : Nat) : Nat → List (List Int)
  | 0 => [[]]
  | c + 1 => (specL d c).flatMap fun h => (((List.range (d + 1)).map fun (x : Nat) => (x : Int)).filter (stepOk h)).map fun x => h ++ [x]
def agree (n d : Nat) : Bool := match cut_all (shape n d) with
  | some l => l.map a6 == (specL d n).map fun h => h ++ List.replicate (6 - n) 0
  | none => false
end Go.D4

set_option linter.unusedVariables false
set_option linter.unusedSimpArgs false
namespace Go.D4
open Go.Tb
section
variable {a b : Bog} (hw : a.worth.length = b.worth.length) (hd : cut_depth a = cut_depth b)
include hw hd
theorem all_k1 (l1 : List Arr6) (l2 : List Int) (rec1 : List Arr6 → List Int → Option (List Arr6)) : cut_all_k1 a l1 l2 rec1 = cut_all_k1 b l1 l2 rec1 := by
  unfold cut_all_k1; simp only [hw, hd]
theorem all_L1 (l1 : List Arr6) (l2 : List Int) (rec1 : List Arr6 → List Int → Option (List Arr6)) : ∀ n t, cut_all_L1 a l1 l2 rec1 n t = cut_all_L1 b l1 l2 rec1 n t
  | 0, t => rfl
  | n + 1, t => by
    show cut_all_B1 a l1 l2 rec1 (cut_all_L1 a l1 l2 rec1 n) t = cut_all_B1 b l1 l2 rec1 (cut_all_L1 b l1 l2 rec1 n) t
    have e : cut_all_L1 a l1 l2 rec1 n = cut_all_L1 b l1 l2 rec1 n := funext fun t => all_L1 l1 l2 rec1 n t
    rw [e]
    unfold cut_all_B1
    simp only [hw, hd, all_k1 hw hd]
theorem all_L2 : ∀ n l1 l2, cut_all_L2 a n l1 l2 = cut_all_L2 b n l1 l2
  | 0, l1, l2 => rfl
  | n + 1, l1, l2 => by
    show cut_all_B2 a (cut_all_L2 a n) l1 l2 = cut_all_B2 b (cut_all_L2 b n) l1 l2
    have e : cut_all_L2 a n = cut_all_L2 b n := funext fun l1 => funext fun l2 => all_L2 n l1 l2
    rw [e]
    unfold cut_all_B2
    rw [all_L1 hw hd]
theorem all_congr : cut_all a = cut_all b := all_L2 hw hd FU _ _
end
theorem shape_depth {n d : Nat} (hn : 1 ≤ n) : cut_depth (shape n d) = some (d : Int) := by
  have hx : (shape n d).worth[0]? = some (List.replicate d 0) := by unfold shape; simp only [List.getElem?_replicate]; rw [if_pos (by omega)]
  unfold cut_depth
  rw [ix0 hx]; simp
theorem all_shape {b : Bog} (hb : Ok b) : cut_all b = cut_all (shape b.worth.length (dep b).toNat) :=
  all_congr (by simp [shape]) (by rw [depth_eq hb.n1, shape_depth hb.n1, show (((dep b).toNat : Nat) : Int) = dep b by have := hb.d1; omega])
theorem mem_spec {d : Nat} : ∀ (c : Nat) (h : List Int), h ∈ specL d c ↔ h.length = c ∧ (∀ x ∈ h, 0 ≤ x ∧ x ≤ (d : Int)) ∧ rightB h = true
  | 0, h => by
    simp only [specL, List.mem_singleton]
    constructor
    · rintro rfl; exact ⟨rfl, by simp, by decide⟩
    · rintro ⟨h1, _, _⟩; exact List.length_eq_zero_iff.1 h1
  | c + 1, h => by
    have ih := mem_spec (d := d) c
    have key : ∀ (g : List Int) (x : Int), g.length = c → (rightB (g ++ [x]) = true ↔ rightB g = true ∧ stepOk g x = true) := fun g x hg => by
      have g1 : ∀ j, j < g.length → gi (g ++ [x]) j = gi g j := fun j hj => by
        unfold gi
        simp only [List.getD, List.getElem?_append_left hj]
      have g2 : gi (g ++ [x]) g.length = x := gi_of (by simp)
      have hs : stepOk g x = true ↔ (1 ≤ g.length → -1 ≤ x - gi g (g.length - 1) ∧ x - gi g (g.length - 1) ≤ 1) := by
        unfold stepOk
        cases hl : g.getLast? with
        | none => have := List.getLast?_eq_none_iff.1 hl; subst this; simp
        | some y =>
          rw [List.getLast?_eq_getElem?] at hl
          have hlt := lt_of_at hl
          rw [gi_of hl]
          simp only [within_iff]
          exact ⟨fun h _ => h, fun h => h (by omega)⟩
      rw [rightB_iff, rightB_iff, hs]
      constructor
      · intro h
        refine ⟨fun j hj h1 => ?_, fun h1 => ?_⟩
        · have := h j (by simp; omega) h1
          rw [g1 j hj, g1 (j - 1) (by omega)] at this; exact this
        · have := h g.length (by simp) h1
          rw [g2, g1 (g.length - 1) (by omega)] at this; exact this
      · rintro ⟨h1, h2⟩ j hj h3
        by_cases e : j = g.length
        · subst e
          rw [g2, g1 (g.length - 1) (by omega)]; exact h2 h3
        · have hj' : j < g.length := by simp at hj; omega
          rw [g1 j hj', g1 (j - 1) (by omega)]; exact h1 j hj' h3
    simp only [specL, List.mem_flatMap, List.mem_map, List.mem_filter, List.mem_range]
    constructor
    · rintro ⟨g, hg, x, ⟨⟨y, hy, rfl⟩, hst⟩, rfl⟩
      obtain ⟨h1, h2, h3⟩ := (ih g).1 hg
      refine ⟨by simp [h1], fun z hz => ?_, (key g _ h1).2 ⟨h3, hst⟩⟩
      rcases List.mem_append.1 hz with h | h
      · exact h2 z h
      · have : z = (y : Int) := by simpa using h
        omega
    · rintro ⟨h1, h2, h3⟩
      have hne : h ≠ [] := by intro e; rw [e] at h1; simp at h1
      have e := List.dropLast_concat_getLast hne
      have hl : h.dropLast.length = c := by simp [h1]
      have hlast := h2 (h.getLast hne) (List.getLast_mem hne)
      rw [← e] at h3
      obtain ⟨k1, k2⟩ := (key _ _ hl).1 h3
      refine ⟨h.dropLast, (ih _).2 ⟨hl, fun z hz => h2 z (by rw [List.dropLast_eq_take] at hz; exact List.mem_of_mem_take hz), k1⟩, h.getLast hne, ⟨⟨(h.getLast hne).toNat, by omega, by omega⟩, k2⟩, e⟩
end Go.D4

set_option linter.unusedVariables false
set_option linter.unusedSimpArgs false
namespace Go.D4
theorem agree_n {n d : Nat} (h1 : 1 ≤ n) (h2 : n ≤ 5) (h3 : 1 ≤ d) (h4 : d ≤ 4) : agree n d = true := by
  have e : ∀ n ∈ List.range' 1 5, ∀ d ∈ List.range' 1 4, agree n d = true := by decide +kernel
  exact e n (by rw [List.mem_range'_1]; omega) d (by rw [List.mem_range'_1]; omega)
end Go.D4

set_option linter.unusedVariables false
set_option linter.unusedSimpArgs false
namespace Go.D4
set_option maxHeartbeats 0 in
theorem agree_61 : agree 6 1 = true := by decide +kernel
set_option maxHeartbeats 0 in
theorem agree_62 : agree 6 2 = true := by decide +kernel
set_option maxHeartbeats 0 in
theorem agree_63 : agree 6 3 = true := by decide +kernel
set_option maxHeartbeats 0 in
theorem agree_64 : agree 6 4 = true := by decide +kernel
theorem agree_all {n d : Nat} (h1 : 1 ≤ n) (h2 : n ≤ 6) (h3 : 1 ≤ d) (h4 : d ≤ 4) : agree n d = true := by
  by_cases h : n = 6
  · subst h
    have : d = 1 ∨ d = 2 ∨ d = 3 ∨ d = 4 := by omega
    rcases this with rfl | rfl | rfl | rfl
    · exact agree_61
    · exact agree_62
    · exact agree_63
    · exact agree_64
  · exact agree_n h1 (by omega) h3 h4
end Go.D4

set_option linter.unusedVariables false
set_option linter.unusedSimpArgs false
namespace Go.D4
open Go.Tb
theorem hollow_list_eq {b : Bog} (hb : Ok b) (x : Arr6) : cut_hollow_list x b = some ((a6 x).take b.worth.length) := by
  have h6 := hb.n6
  have e : Int.toNat (b.worth.length : Int) = b.worth.length := by omega
  unfold cut_hollow_list
  rw [gd_pos (by omega), e, bnd_eq (Clone_eq (by rw [List.length_take]; omega))]; rfl
def W (b : Bog) (h : List Int) : Int := wsum b h h.length
/-- The right hollows of a bog. -/
def hollows (b : Bog) : List (List Int) := specL (dep b).toNat b.worth.length
theorem mem_hollows {b : Bog} (hb : Ok b) {h : List Int} : h ∈ hollows b ↔ hollowE b h = 0 := by
  have := hb.d1
  unfold hollows
  rw [mem_spec, hollow0, okL_iff, show (((dep b).toNat : Nat) : Int) = dep b by omega]
  exact ⟨fun ⟨h1, h2, h3⟩ => ⟨hb, ⟨h1, h2⟩, h3⟩, fun ⟨_, ⟨h1, h2⟩, h3⟩ => ⟨h1, h2, h3⟩⟩
def pad (h : List Int) : List Int := h ++ List.replicate (6 - h.length) 0
theorem all_pad {b : Bog} (hb : Ok b) : ∃ l, cut_all b = some l ∧ l.map a6 = (hollows b).map pad := by
  have ha := agree_all hb.n1 hb.n6 (d := (dep b).toNat) (by have := hb.d1; omega) (by have := hb.d4; omega)
  unfold agree at ha
  rw [← all_shape hb] at ha
  have hp : (hollows b).map pad = (specL (dep b).toNat b.worth.length).map fun h => h ++ List.replicate (6 - b.worth.length) 0 := by
    unfold hollows
    refine List.map_congr_left fun h hh => ?_
    unfold pad
    rw [((mem_spec _ h).1 hh).1]
  cases hl : cut_all b with
  | none => rw [hl] at ha; cases ha
  | some l => rw [hl] at ha; exact ⟨l, rfl, by rw [hp]; simpa using ha⟩
theorem hollow_len {b : Bog} {h : List Int} (h0 : hollowE b h = 0) : h.length = b.worth.length := (okL_iff.1 (hollow0.1 h0).2.1).1
theorem ix6 {R : Type} (x : Arr6) {k : Int → Int → Int → Int → Int → Int → Option R} :
    (gd ((([x.at0, x.at1, x.at2, x.at3, x.at4, x.at5] : List Int)).length = 6) <|
    ix (([x.at0, x.at1, x.at2, x.at3, x.at4, x.at5] : List Int)) 0 fun x2 =>
    ix (([x.at0, x.at1, x.at2, x.at3, x.at4, x.at5] : List Int)) 1 fun x3 =>
    ix (([x.at0, x.at1, x.at2, x.at3, x.at4, x.at5] : List Int)) 2 fun x4 =>
    ix (([x.at0, x.at1, x.at2, x.at3, x.at4, x.at5] : List Int)) 3 fun x5 =>
    ix (([x.at0, x.at1, x.at2, x.at3, x.at4, x.at5] : List Int)) 4 fun x6 =>
    ix (([x.at0, x.at1, x.at2, x.at3, x.at4, x.at5] : List Int)) 5 fun x7 => k x2 x3 x4 x5 x6 x7) = k x.at0 x.at1 x.at2 x.at3 x.at4 x.at5 := by
  rw [gd_pos (by simp), ix_eq (i := 0) (by decide) rfl, ix_eq (i := 1) (by decide) rfl, ix_eq (i := 2) (by decide) rfl, ix_eq (i := 3) (by decide) rfl, ix_eq (i := 4) (by decide) rfl, ix_eq (i := 5) (by decide) rfl]
theorem spec_len (d : Nat) : ∀ c, (specL d c).length ≤ (d + 1) ^ c
  | 0 => by simp [specL]
  | c + 1 => by
    have ih := spec_len d c
    have e : ∀ l : List (List Int), (l.flatMap fun h => (((List.range (d + 1)).map fun (x : Nat) => (x : Int)).filter (stepOk h)).map fun x => h ++ [x]).length ≤ l.length * (d + 1) := fun l => by
      induction l with
      | nil => simp
      | cons h r ih =>
        simp only [List.flatMap_cons, List.length_append, List.length_map, List.length_cons]
        have := List.length_filter_le (stepOk h) ((List.range (d + 1)).map fun (x : Nat) => (x : Int))
        simp only [List.length_map, List.length_range] at this
        rw [Nat.succ_mul]; omega
    simp only [specL]
    refine Nat.le_trans (e _) ?_
    rw [Nat.pow_succ]
    exact Nat.mul_le_mul_right _ ih
theorem hollows_len {b : Bog} (hb : Ok b) : (hollows b).length ≤ 15625 ∧ 1 ≤ (hollows b).length := by
  constructor
  · have h1 := spec_len (dep b).toNat b.worth.length
    have h2 : ((dep b).toNat + 1) ^ b.worth.length ≤ 5 ^ b.worth.length := Nat.pow_le_pow_left (by have := hb.d4; omega) _
    have h3 : 5 ^ b.worth.length ≤ 5 ^ 6 := Nat.pow_le_pow_right (by omega) hb.n6
    unfold hollows; omega
  · have h0 : hollowE b (List.replicate b.worth.length 0) = 0 := hollow0.2 ⟨hb, okL_zero hb, rightB_iff.2 fun j hj h1 => by
      have g0 : ∀ c, gi (List.replicate b.worth.length 0) c = 0 := fun c => by
        unfold gi; simp only [List.getD, List.getElem?_replicate]; split <;> rfl
      rw [g0, g0]; omega⟩
    exact List.length_pos_of_mem ((mem_hollows hb).2 h0)
end Go.D4

set_option linter.unusedVariables false
set_option linter.unusedSimpArgs false
namespace Go.D4
open Go.Tb
theorem right_snoc {g : List Int} {x : Int} : rightB (g ++ [x]) = true ↔ rightB g = true ∧ stepOk g x = true := by
  have g1 : ∀ j, j < g.length → gi (g ++ [x]) j = gi g j := fun j hj => by
    unfold gi
    simp only [List.getD, List.getElem?_append_left hj]
  have g2 : gi (g ++ [x]) g.length = x := gi_of (by simp)
  have hs : stepOk g x = true ↔ (1 ≤ g.length → -1 ≤ x - gi g (g.length - 1) ∧ x - gi g (g.length - 1) ≤ 1) := by
    unfold stepOk
    cases hl : g.getLast? with
    | none => have := List.getLast?_eq_none_iff.1 hl; subst this; simp
    | some y =>
      rw [List.getLast?_eq_getElem?] at hl
      have hlt := lt_of_at hl
      rw [gi_of hl]
      simp only [within_iff]
      exact ⟨fun h _ => h, fun h => h (by omega)⟩
  rw [rightB_iff, rightB_iff, hs]
  constructor
  · intro h
    refine ⟨fun j hj h1 => ?_, fun h1 => ?_⟩
    · have := h j (by simp; omega) h1
      rw [g1 j hj, g1 (j - 1) (by omega)] at this; exact this
    · have := h g.length (by simp) h1
      rw [g2, g1 (g.length - 1) (by omega)] at this; exact this
  · rintro ⟨h1, h2⟩ j hj h3
    by_cases e : j = g.length
    · subst e
      rw [g2, g1 (g.length - 1) (by omega)]; exact h2 h3
    · have hj' : j < g.length := by simp at hj; omega
      rw [g1 j hj', g1 (j - 1) (by omega)]; exact h1 j hj' h3
theorem right_snoc_eq {g : List Int} {x : Int} (hg : rightB g = true) : rightB (g ++ [x]) = stepOk g x := by
  cases h : stepOk g x
  · cases h2 : rightB (g ++ [x])
    · rfl
    · rw [(right_snoc.1 h2).2] at h; cases h
  · exact right_snoc.2 ⟨hg, h⟩
/-- The right hollows with one more column, of less than j blocks. -/
def rowx (h : List Int) (j : Nat) : List (List Int) := (((List.range j).map fun (x : Nat) => (x : Int)).filter (stepOk h)).map fun x => h ++ [x]
theorem rowx_succ (h : List Int) (j : Nat) : rowx h (j + 1) = rowx h j ++ (if stepOk h (j : Int) = true then [h ++ [(j : Int)]] else []) := by
  unfold rowx
  rw [List.range_succ, List.map_append, List.filter_append, List.map_append]
  congr 1
  simp only [List.map_cons, List.map_nil, List.filter_cons, List.filter_nil]
  split <;> simp
theorem rowx_len (h : List Int) : ∀ j, (rowx h j).length ≤ j
  | 0 => by simp [rowx]
  | j + 1 => by
    have := rowx_len h j
    rw [rowx_succ, List.length_append]
    split <;> simp <;> omega
theorem flat_len (d : Nat) : ∀ l : List (List Int), (l.flatMap fun h => rowx h d).length ≤ l.length * d
  | [] => by simp
  | h :: r => by
    have := flat_len d r
    have := rowx_len h d
    rw [List.flatMap_cons, List.length_append, List.length_cons, Nat.succ_mul]; omega
theorem flat_take {d i : Nat} {l : List (List Int)} {h : List Int} (hx : l[i]? = some h) : ((l.take (i + 1)).flatMap fun h => rowx h d) = ((l.take i).flatMap fun h => rowx h d) ++ rowx h d := by
  rw [List.take_add_one, hx]; simp [List.flatMap_append]
/-- A row that the specification's list may be lengthened by. -/
def RowOk (h : List Int) : Prop := h.length ≤ 6 ∧ (∀ x ∈ h, 0 ≤ x ∧ x ≤ 4) ∧ rightB h = true
theorem rall_inner {b : Bog} (hb : Ok b) {d : Nat} (hd : dep b = (d : Int)) {m6 m8 : List (List Int)} {i : Nat} {h : List Int} (hx : m6[i]? = some h) (ho : RowOk h) (hi : i ≤ 20000) (hm : m8.length ≤ 20000) (rec2 : Int → List (List Int) → Option (List (List Int))) :
    ref04_all_L1 b m6 i rec2 FU 0 m8 = rec2 ((i + 1 : Nat) : Int) (m8 ++ rowx h (d + 1)) := by
  have hd4 := hb.d4
  refine for0 (d + 1) (fun j => m8 ++ rowx h j) (fun n s j => ref04_all_L1 b m6 i rec2 n j s) _ (by simp [rowx]) (fun n j hj => ?_) (fun n => ?_) (by omega)
  · have hrl := rowx_len h j
    have hr : ref04_right (([] ++ h) ++ [(j : Int)]) = some (stepOk h (j : Int)) := by
      rw [List.nil_append, rright_eq (by have := ho.1; simp; omega) (fun x hx => by
        rcases List.mem_append.1 hx with h1 | h1
        · have := ho.2.1 x h1; omega
        · have : x = (j : Int) := by simpa using h1
          omega), right_snoc_eq ho.2.2]
    have hho := ho.1
    show ref04_all_B1 b m6 i rec2 (ref04_all_L1 b m6 i rec2 n) _ _ = _
    unfold ref04_all_B1
    rw [bnd_eq (rdepth_eq hb.n1), if_pos (by omega), ix_nat hx, gd_pos (by simp; omega), gd_pos (by simp; omega), bnd_eq hr, rowx_succ]
    cases stepOk h (j : Int)
    · rw [if_neg (by simp), if_neg (by simp)]
      unfold ref04_all_k5
      rw [gd_pos (by omega), List.append_nil]; rfl
    · rw [if_pos rfl, if_pos rfl]
      unfold ref04_all_k5
      rw [gd_pos (by simp; omega), gd_pos (by omega), ← List.append_assoc]; rfl
  · show ref04_all_B1 b m6 i rec2 (ref04_all_L1 b m6 i rec2 n) _ _ = _
    unfold ref04_all_B1
    rw [bnd_eq (rdepth_eq hb.n1), if_neg (by omega)]
    unfold ref04_all_k4
    rw [gd_pos (by omega)]; rfl
theorem specL_ok {d c : Nat} (hd : d ≤ 4) (hc : c ≤ 6) {h : List Int} (hh : h ∈ specL d c) : RowOk h := by
  obtain ⟨h1, h2, h3⟩ := (mem_spec c h).1 hh
  exact ⟨by omega, fun x hx => by have := h2 x hx; omega, h3⟩
theorem rall_eq {b : Bog} (hb : Ok b) : ref04_all b = some (hollows b) := by
  have hd1 := hb.d1
  have hd4 := hb.d4
  have hn6 := hb.n6
  have hd : dep b = ((dep b).toNat : Int) := by omega
  unfold ref04_all hollows
  generalize hdd : (dep b).toNat = d at hd
  have hd4' : d ≤ 4 := by omega
  refine for0 b.worth.length (fun c => specL d c) (fun n s c => ref04_all_L3 b n c s) _ rfl (fun n c hc => ?_) (fun n => ?_) (by omega)
  · have hsl : (specL d c).length ≤ 3125 := by
      have h1 := spec_len d c
      have h2 : (d + 1) ^ c ≤ 5 ^ c := Nat.pow_le_pow_left (by omega) _
      have h3 : 5 ^ c ≤ 5 ^ 5 := Nat.pow_le_pow_right (by omega) (by omega)
      omega
    show ref04_all_B3 b (ref04_all_L3 b n) _ _ = _
    unfold ref04_all_B3
    rw [if_pos (by omega)]
    refine for0 (specL d c).length (fun i => ((specL d c).take i).flatMap fun h => rowx h (d + 1)) (fun m s i => ref04_all_L2 b c (specL d c) (ref04_all_L3 b n) m i s) _ (by simp) (fun m i hi => ?_) (fun m => ?_) (by omega)
    · have hx : (specL d c)[i]? = some (specL d c)[i] := by simp [hi]
      have hfl := flat_len (d + 1) ((specL d c).take i)
      have htl : ((specL d c).take i).length ≤ 3125 := by rw [List.length_take]; omega
      have : ((specL d c).take i).length * (d + 1) ≤ 3125 * 5 := Nat.mul_le_mul htl (by omega)
      show ref04_all_B2 b c (specL d c) (ref04_all_L3 b n) (ref04_all_L2 b c (specL d c) (ref04_all_L3 b n) m) _ _ = _
      unfold ref04_all_B2
      rw [if_pos (by omega), rall_inner hb hd hx (specL_ok hd4' (by omega) (List.getElem_mem _)) (by omega) (by omega), flat_take hx]
    · show ref04_all_B2 b c (specL d c) (ref04_all_L3 b n) (ref04_all_L2 b c (specL d c) (ref04_all_L3 b n) m) _ _ = _
      unfold ref04_all_B2
      rw [if_neg (by omega)]
      unfold ref04_all_k3 ref04_all_k2
      rw [gd_pos (by omega), List.take_length]; rfl
  · show ref04_all_B3 b (ref04_all_L3 b n) _ _ = _
    unfold ref04_all_B3
    rw [if_neg (by omega)]; rfl
end Go.D4

set_option linter.unusedVariables false
set_option linter.unusedSimpArgs false
namespace Go.D4
open Go.Tb
def Lex (h k : List Int) : Prop := ∃ c, c < h.length ∧ c < k.length ∧ (∀ j, j < c → gi h j = gi k j) ∧ gi h c < gi k c
theorem gi_snoc {g : List Int} {x : Int} {j : Nat} (hj : j < g.length) : gi (g ++ [x]) j = gi g j := by
  unfold gi
  simp only [List.getD, List.getElem?_append_left hj]
theorem gi_last {g : List Int} {x : Int} : gi (g ++ [x]) g.length = x := gi_of (by simp)
theorem Lex.snoc {h k : List Int} (l : Lex h k) (x y : Int) : Lex (h ++ [x]) (k ++ [y]) := by
  obtain ⟨c, h1, h2, h3, h4⟩ := l
  exact ⟨c, by simp; omega, by simp; omega, fun j hj => by rw [gi_snoc (by omega), gi_snoc (by omega)]; exact h3 j hj, by rw [gi_snoc h1, gi_snoc h2]; exact h4⟩
theorem rowx_lex (h : List Int) (d : Nat) : (rowx h d).Pairwise Lex := by
  unfold rowx
  rw [List.pairwise_map]
  refine List.Pairwise.filter _ ?_
  rw [List.pairwise_map]
  refine List.pairwise_lt_range.imp fun {a b} hab => ⟨h.length, by simp, by simp, fun j hj => by rw [gi_snoc hj, gi_snoc hj], ?_⟩
  rw [gi_last, gi_last]; omega
theorem rowx_mem {h q : List Int} {d : Nat} (hq : q ∈ rowx h d) : ∃ x, q = h ++ [x] := by
  unfold rowx at hq
  obtain ⟨x, _, rfl⟩ := List.mem_map.1 hq
  exact ⟨x, rfl⟩
theorem specL_lex (d : Nat) : ∀ c, (specL d c).Pairwise Lex
  | 0 => by simp [specL]
  | c + 1 => by
    have ih := specL_lex d c
    have e : specL d (c + 1) = (specL d c).flatMap fun h => rowx h (d + 1) := rfl
    rw [e, List.pairwise_flatMap]
    refine ⟨fun h _ => rowx_lex h _, ih.imp fun {a b} hab x hx y hy => ?_⟩
    obtain ⟨p, rfl⟩ := rowx_mem hx
    obtain ⟨q, rfl⟩ := rowx_mem hy
    exact hab.snoc p q
theorem Lex.ne {h k : List Int} (l : Lex h k) : h ≠ k := by
  rintro rfl
  obtain ⟨c, _, _, _, h4⟩ := l
  omega
theorem hollows_at {b : Bog} {i j : Nat} {h k : List Int} (hi : (hollows b)[i]? = some h) (hj : (hollows b)[j]? = some k) (hij : i < j) : Lex h k := by
  have hp : (hollows b).Pairwise Lex := specL_lex _ _
  have h1 := lt_of_at hi
  have h2 := lt_of_at hj
  have := (List.pairwise_iff_getElem.1 hp) i j h1 h2 hij
  rw [List.getElem?_eq_getElem h1] at hi
  rw [List.getElem?_eq_getElem h2] at hj
  rw [Option.some.inj hi, Option.some.inj hj] at this
  exact this
theorem eq6 {x y : Arr6} : eqArr6 x y = true ↔ x = y := by
  cases x; cases y; simp [eqArr6, and_assoc]
theorem a6_inj {x y : Arr6} (h : a6 x = a6 y) : x = y := by
  cases x; cases y; simp [a6] at h; simp [h]
def rkF : List Arr6 → Int → List (Arr6 × Int)
  | [], _ => []
  | x :: r, s => (x, s) :: rkF r (s + 1)
theorem rkF_snoc (x : Arr6) : ∀ (l : List Arr6) (s : Int), rkF (l ++ [x]) s = rkF l s ++ [(x, s + (l.length : Int))]
  | [], s => by simp [rkF]
  | y :: r, s => by
    have ih := rkF_snoc x r (s + 1)
    simp only [List.cons_append, rkF, ih, List.length_cons]
    congr 4; omega
theorem rkF_key : ∀ (l : List Arr6) (s : Int) (p : Arr6 × Int), p ∈ rkF l s → p.1 ∈ l
  | [], s, p, h => by simp [rkF] at h
  | y :: r, s, p, h => by
    rcases List.mem_cons.1 h with rfl | h
    · exact List.mem_cons_self ..
    · exact List.mem_cons_of_mem _ (rkF_key r (s + 1) p h)
theorem mset_new {x : Arr6} {v : Int} : ∀ m : List (Arr6 × Int), (∀ p ∈ m, p.1 ≠ x) → mset eqArr6 m x v = m ++ [(x, v)]
  | [], _ => rfl
  | p :: r, h => by
    have h1 : ¬ eqArr6 x p.1 = true := fun e => h p (List.mem_cons_self ..) (eq6.1 e).symm
    simp only [mset, if_neg h1, mset_new r (fun q hq => h q (List.mem_cons_of_mem _ hq)), List.cons_append]
theorem mget_at {x : Arr6} : ∀ (l : List Arr6) (s : Int) (i : Nat), l[i]? = some x → (∀ j y, j < i → l[j]? = some y → y ≠ x) → mget eqArr6 (rkF l s) x = some (s + (i : Int))
  | [], s, i, h, _ => by simp at h
  | y :: r, s, 0, h, _ => by
    simp at h; subst h
    simp [rkF, mget, eq6]
  | y :: r, s, i + 1, h, hn => by
    have h1 : ¬ eqArr6 x y = true := fun e => hn 0 y (by omega) rfl (eq6.1 e).symm
    have ih := mget_at r (s + 1) i (by simpa using h) (fun j z hj hz => hn (j + 1) z (by omega) (by simpa using hz))
    simp only [rkF, mget, if_neg h1, ih]
    congr 1; omega
theorem ranks_eq {b : Bog} {l : List Arr6} (hl : cut_all b = some l) (hn : l.length ≤ 1000000) (nd : ∀ (i j : Nat) (x y : Arr6), i < j → l[i]? = some x → l[j]? = some y → x ≠ y) : cut_ranks b = some (rkF l 0) := by
  unfold cut_ranks
  rw [bnd_eq hl]
  refine Eq.trans (for0 l.length (fun i => rkF (l.take i) 0) (fun n s i => cut_ranks_L1 l n i s) (some (rkF l 0)) rfl (fun n i hi => ?_) (fun n => ?_) (by omega)) rfl
  · have hx : l[i]? = some l[i] := by simp [hi]
    show cut_ranks_B1 l (cut_ranks_L1 l n) _ _ = _
    unfold cut_ranks_B1
    rw [if_pos (by omega), ix_nat hx, ix6, gd_pos (by omega)]
    have e : mset eqArr6 (rkF (l.take i) 0) (⟨l[i].at0, l[i].at1, l[i].at2, l[i].at3, l[i].at4, l[i].at5⟩ : Arr6) (i : Int) = rkF (l.take (i + 1)) 0 := by
      rw [mset_new _ (fun p hp => ?_), List.take_add_one, hx]
      · rw [show (some l[i]).toList = [l[i]] from rfl, rkF_snoc]
        have : (l.take i).length = i := by rw [List.length_take]; omega
        rw [this, Int.zero_add]
      · have hm := rkF_key _ _ p hp
        obtain ⟨j, hj⟩ := List.getElem?_of_mem hm
        have hlt := lt_of_at hj
        rw [List.length_take] at hlt
        rw [List.getElem?_take_of_lt (by omega)] at hj
        exact nd j i _ _ (by omega) hj hx
    rw [e]; rfl
  · show cut_ranks_B1 l (cut_ranks_L1 l n) _ _ = _
    unfold cut_ranks_B1
    rw [if_neg (by omega), List.take_length]; rfl
def arrOf (l : List Int) : Arr6 := ⟨gi l 0, gi l 1, gi l 2, gi l 3, gi l 4, gi l 5⟩
theorem a6_arrOf {l : List Int} (h : l.length = 6) : a6 (arrOf l) = l := by
  match l, h with
  | [a, b, c, d, e, f], _ => rfl
theorem of_eq {h : List Int} (hl : h.length ≤ 6) : cut_of h = some (arrOf (pad h)) := by
  have hp : (pad h).length = 6 := by unfold pad; simp; omega
  have e : List.take (([0, 0, 0, 0, 0, 0] : List Int)).length h ++ List.drop h.length (([0, 0, 0, 0, 0, 0] : List Int)) = pad h := by
    unfold pad
    rw [List.take_of_length_le (by simpa using hl)]
    congr 1
    have : ([0, 0, 0, 0, 0, 0] : List Int) = List.replicate 6 0 := rfl
    rw [this, List.drop_replicate]
  unfold cut_of
  rw [e, gd_pos hp]
  have g : ∀ i, i < 6 → (pad h)[i]? = some (gi (pad h) i) := fun i hi => gi_at (by omega)
  have s := ix6 (arrOf (pad h)) (k := fun a b c d e f => some (⟨a, b, c, d, e, f⟩ : Arr6))
  refine Eq.trans ?_ s
  rw [show (0 : Int) = ((0 : Nat) : Int) from rfl, show (1 : Int) = ((1 : Nat) : Int) from rfl, show (2 : Int) = ((2 : Nat) : Int) from rfl, show (3 : Int) = ((3 : Nat) : Int) from rfl, show (4 : Int) = ((4 : Nat) : Int) from rfl, show (5 : Int) = ((5 : Nat) : Int) from rfl]
  rw [ix_nat (g 0 (by omega)), ix_nat (g 1 (by omega)), ix_nat (g 2 (by omega)), ix_nat (g 3 (by omega)), ix_nat (g 4 (by omega)), ix_nat (g 5 (by omega))]
  rfl
/-- The list of arrays, and the hollows. -/
theorem arrs {b : Bog} (hb : Ok b) : ∃ l, cut_all b = some l ∧ l.length = (hollows b).length ∧ (∀ (i : Nat) (h : List Int), (hollows b)[i]? = some h → l[i]? = some (arrOf (pad h))) ∧ (∀ (i j : Nat) (x y : Arr6), i < j → l[i]? = some x → l[j]? = some y → x ≠ y) := by
  obtain ⟨l, hl, hm⟩ := all_pad hb
  have hlen : l.length = (hollows b).length := by have := congrArg List.length hm; simpa using this
  have hpl : ∀ h ∈ hollows b, (pad h).length = 6 := fun h hh => by
    have := hollow_len ((mem_hollows hb).1 hh); have := hb.n6
    unfold pad; simp; omega
  have hat : ∀ (i : Nat) (h : List Int), (hollows b)[i]? = some h → l[i]? = some (arrOf (pad h)) := fun i h hi => by
    have hlt : i < l.length := by have := lt_of_at hi; omega
    have e : (l.map a6)[i]? = some (pad h) := by rw [hm, List.getElem?_map, hi]; rfl
    rw [List.getElem?_map, List.getElem?_eq_getElem hlt] at e
    have e2 : a6 l[i] = pad h := Option.some.inj e
    rw [List.getElem?_eq_getElem hlt]
    congr 1
    exact a6_inj (by rw [e2, a6_arrOf (hpl h (List.mem_of_getElem? hi))])
  refine ⟨l, hl, hlen, hat, fun i j x y hij hx hy => ?_⟩
  have h1 := lt_of_at hx
  have h2 := lt_of_at hy
  have g1 : (hollows b)[i]? = some ((hollows b)[i]'(by omega)) := List.getElem?_eq_getElem _
  have g2 : (hollows b)[j]? = some ((hollows b)[j]'(by omega)) := List.getElem?_eq_getElem _
  have lx := hollows_at g1 g2 hij
  rw [hat i _ g1] at hx
  rw [hat j _ g2] at hy
  rintro rfl
  have e := (Option.some.inj hx).trans (Option.some.inj hy).symm
  have e2 := congrArg a6 e
  rw [a6_arrOf (hpl _ (List.getElem_mem _)), a6_arrOf (hpl _ (List.getElem_mem _))] at e2
  refine lx.ne ?_
  have l1 := hollow_len ((mem_hollows hb).1 (List.mem_of_getElem? g1))
  have l2 := hollow_len ((mem_hollows hb).1 (List.mem_of_getElem? g2))
  unfold pad at e2
  exact (List.append_inj e2 (by omega)).1
def countR (b : Bog) : Int × Int := if validate b = 0 then (((hollows b).length : Int), 0) else (0, validate b)
theorem Count_eq {b : Bog} (hs : Short b) : cut_Count b = some (countR b) := by
  unfold cut_Count countR
  rw [bnd_eq (Validate_eq hs)]
  by_cases hv : validate b = 0
  · obtain ⟨l, hl, hlen, _⟩ := arrs (val0.1 hv)
    rw [if_pos hv, if_pos hv, bnd_eq hl, hlen]
  · rw [if_neg hv, if_neg hv]
theorem rCount_eq {b : Bog} (hs : Short b) : ref04_Count b = some (countR b) := by
  unfold ref04_Count countR
  rw [bnd_eq (rValidate_eq hs)]
  by_cases hv : validate b = 0
  · rw [if_pos hv, if_pos hv, bnd_eq (rall_eq (val0.1 hv))]
  · rw [if_neg hv, if_neg hv]
theorem Rank_err {b : Bog} (hs : Short b) {h : List Int} (hl : h.length ≤ 1000000) (h0 : hollowE b h ≠ 0) : cut_Rank b h = some (0, hollowE b h) ∧ ref04_Rank b h = some (0, hollowE b h) := by
  unfold cut_Rank ref04_Rank
  rw [bnd_eq (CheckHollow_eq hs hl), bnd_eq (rCheckHollow_eq hs hl), if_neg h0, if_neg h0]
  exact ⟨rfl, rfl⟩
theorem Rank_eq {b : Bog} (hs : Short b) {h : List Int} (h0 : hollowE b h = 0) {i : Nat} (hi : (hollows b)[i]? = some h) : cut_Rank b h = some ((i : Int), 0) := by
  have hb := (hollow0.1 h0).1
  have hl := hollow_len h0
  have h6 := hb.n6
  obtain ⟨l, hl1, hlen, hat, nd⟩ := arrs hb
  have hn := (hollows_len hb).1
  unfold cut_Rank
  rw [bnd_eq (CheckHollow_eq hs (by omega)), if_pos h0, bnd_eq (ranks_eq hl1 (by omega) nd), bnd_eq (of_eq (by omega)), mget_at l 0 i (hat i h hi) (fun j y hj hy => nd j i _ _ hj hy (hat i h hi))]
  simp
theorem rRank_eq {b : Bog} (hs : Short b) {h : List Int} (h0 : hollowE b h = 0) {i : Nat} (hi : (hollows b)[i]? = some h) : ref04_Rank b h = some ((i : Int), 0) := by
  have hb := (hollow0.1 h0).1
  have hl := hollow_len h0
  have h6 := hb.n6
  have hn := (hollows_len hb).1
  have hlt := lt_of_at hi
  unfold ref04_Rank
  rw [bnd_eq (rCheckHollow_eq hs (by omega)), if_pos h0, bnd_eq (rall_eq hb)]
  refine Eq.trans (for0 i (fun _ => ()) (fun n _ j => ref04_Rank_L1 h (hollows b) n j) (some ((i : Int), 0)) rfl (fun n j hj => ?_) (fun n => ?_) (by omega)) rfl
  · have hx : (hollows b)[j]? = some ((hollows b)[j]'(by omega)) := List.getElem?_eq_getElem _
    have hxl := hollow_len ((mem_hollows hb).1 (List.mem_of_getElem? hx))
    have hne := (hollows_at hx hi hj).ne
    show ref04_Rank_B1 h (hollows b) (ref04_Rank_L1 h (hollows b) n) _ = _
    unfold ref04_Rank_B1
    rw [ix_nat hx, bnd_eq (Same_eq (by omega) (by omega)), decide_eq_false hne, if_neg (by simp), gd_pos (by omega)]; rfl
  · show ref04_Rank_B1 h (hollows b) (ref04_Rank_L1 h (hollows b) n) _ = _
    unfold ref04_Rank_B1
    rw [ix_nat hi, bnd_eq (Same_eq (by omega) (by omega)), decide_eq_true rfl, if_pos rfl]; rfl
def unrankR (b : Bog) (r : Int) : List Int × Int := if validate b = 0 then (if within r 0 (((hollows b).length : Int) - 1) = true then ((hollows b).getD r.toNat [], 0) else ([], 4)) else ([], validate b)
theorem getD_at {α : Type} {l : List α} {i : Nat} {d : α} (h : i < l.length) : l[i]? = some (l.getD i d) := by simp [List.getD, h]
theorem Unrank_eq {b : Bog} (hs : Short b) (r : Int) : cut_Unrank b r = some (unrankR b r) := by
  unfold cut_Unrank unrankR
  rw [bnd_eq (Validate_eq hs)]
  by_cases hv : validate b = 0
  · have hb := val0.1 hv
    obtain ⟨l, hl, hlen, hat, _⟩ := arrs hb
    have hn := (hollows_len hb).1
    rw [if_pos hv, if_pos hv, bnd_eq hl, gd_pos (by omega), bnd_eq (from_eq _ _ _), hlen]
    by_cases hw : within r 0 (((hollows b).length : Int) - 1) = true
    · have ⟨w1, w2⟩ := within_iff.1 hw
      obtain ⟨k, rfl⟩ : ∃ k : Nat, r = (k : Int) := ⟨r.toNat, by omega⟩
      have hk : k < (hollows b).length := by omega
      have hx := getD_at (d := []) hk
      have hh := (mem_hollows hb).1 (List.mem_of_getElem? hx)
      have h6 := hb.n6
      have hln := hollow_len hh
      have hk2 : (k : Int).toNat = k := by omega
      rw [if_pos hw, if_pos hw, ix_nat (hat k _ hx), bnd_eq (hollow_list_eq hb _), hk2]
      generalize (hollows b).getD k [] = g at *
      rw [a6_arrOf (by unfold pad; simp; omega)]
      congr 2
      unfold pad
      rw [List.take_append_of_le_length (by omega), List.take_of_length_le (by omega)]
    · rw [if_neg hw, if_neg hw]
  · rw [if_neg hv, if_neg hv]
theorem rUnrank_eq {b : Bog} (hs : Short b) (r : Int) : ref04_Unrank b r = some (unrankR b r) := by
  unfold ref04_Unrank unrankR
  rw [bnd_eq (rValidate_eq hs)]
  by_cases hv : validate b = 0
  · have hb := val0.1 hv
    have hn := (hollows_len hb).1
    rw [if_pos hv, if_pos hv, bnd_eq (rall_eq hb)]
    by_cases h0 : r < 0
    · have hw : ¬ within r 0 (((hollows b).length : Int) - 1) = true := fun h => by have := within_iff.1 h; omega
      rw [if_pos h0, if_neg hw]; rfl
    · rw [if_neg h0]
      unfold ref04_Unrank_k1
      by_cases h1 : ((hollows b).length : Int) ≤ r
      · have hw : ¬ within r 0 (((hollows b).length : Int) - 1) = true := fun h => by have := within_iff.1 h; omega
        rw [if_pos (by simpa using h1), if_neg hw]
      · obtain ⟨k, rfl⟩ : ∃ k : Nat, r = (k : Int) := ⟨r.toNat, by omega⟩
        have hk : k < (hollows b).length := by omega
        rw [if_neg (by simpa using h1), if_pos (within_iff.2 (by omega)), ix_nat (getD_at (d := []) hk)]; rfl
  · rw [if_neg hv, if_neg hv]
theorem unrankR_len {b : Bog} (r : Int) : (unrankR b r).1.length ≤ 6 := by
  unfold unrankR
  split
  · rename_i hv
    have hb := val0.1 hv
    split
    · rename_i hw
      have ⟨w1, w2⟩ := within_iff.1 hw
      have hx := getD_at (d := ([] : List Int)) (l := hollows b) (i := r.toNat) (by omega)
      have := hollow_len ((mem_hollows hb).1 (List.mem_of_getElem? hx))
      have := hb.n6
      simp only; omega
    · simp
  · simp
theorem law_CutRanks (b : Bog) (h : List Int) (r : Int) (hb : b.worth.length ≤ 9223372036854775807) : law04_CutRanks b h r = some true := by
  unfold law04_CutRanks
  rw [bnd_eq (Long_eq (by simp) hb)]
  cases hL : longB b [h]
  · obtain ⟨hs, h2⟩ := long_short hL
    have hl := h2 h (by simp)
    have hu := unrankR_len (b := b) r
    rw [if_neg (by simp), bnd_eq (Count_eq hs), bnd_eq (rCount_eq hs)]
    have key : ∃ q, cut_Rank b h = some q ∧ ref04_Rank b h = some q := by
      by_cases h0 : hollowE b h = 0
      · obtain ⟨i, hi⟩ := List.getElem?_of_mem ((mem_hollows (hollow0.1 h0).1).2 h0)
        exact ⟨_, Rank_eq hs h0 hi, rRank_eq hs h0 hi⟩
      · exact ⟨_, Rank_err hs (by omega) h0⟩
    obtain ⟨q, q1, q2⟩ := key
    rw [bnd_eq q1, bnd_eq q2, bnd_eq (Unrank_eq hs r), bnd_eq (rUnrank_eq hs r), if_pos rfl, if_pos rfl, if_pos rfl, if_pos rfl, bnd_eq (SameInts_self (by omega)), if_pos rfl, if_pos rfl, bnd_eq sane_eq]
  · rw [if_pos rfl, bnd_eq sane_eq]
end Go.D4
