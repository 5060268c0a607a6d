/- Lemmas and walks that the proof of this claim uses: D1m10, D1m11, D1m12, D1m22, D1m23, Tb22, D1p1, D1p2, D1p3. -/
import Derived.Test.YtgnlfgkmkkjkoaaLevelShares4
set_option linter.unusedVariables false
set_option linter.unusedSimpArgs false
namespace Go.D1
open Go.Tb Go.Proofs Go.RowKit
theorem Tb4 : Try.prog.underlying 4 = some .bool := by kernel_rfl
theorem Tc100 : callable Try.prog 100 = true := by kernel_rfl
theorem Tc33 : callable Try.prog 33 = true := by kernel_rfl
theorem Tc99 : callable Try.prog 99 = true := by kernel_rfl
set_option maxRecDepth 20000 in
set_option maxHeartbeats 1000000 in
theorem ref01_det_F_ok : ∀ (n_ : Nat) {a0 : List (List Int)} {A_a0 : Option Addr} {c_a0 : Nat} {w : World} {res : Int} (h_a0 : Sl2 w A_a0 c_a0 1 encN a0) (F : ref01_det_F n_ a0 = some res), Calls Try.prog 99 #[.slice A_a0 a0.length c_a0] w (Rt w (.int .i64 res)) := by
  intro n_
  induction n_ with
  | zero =>
    intro a0 A_a0 c_a0 w res h_a0 F
    cases F
  | succ n_ ih =>
    intro a0 A_a0 c_a0 w res h_a0 F
    replace F : ref01_det_body (ref01_det_F n_) a0 = some res := F
    generalize hrecf : ref01_det_F n_ = recf at F ih
    refine calls_of_cw (args := [.slice A_a0 a0.length c_a0]) Try.func99 rfl rfl rfl rfl ?_
    have H := Hp.start w
    have R0 := H.ext
    unfold ref01_det_body at F
    refine CW.seq fun K1 hK1 => ?_
    refine CW.region ?_
    refine LW.pure rfl rfl (RV.assign rfl) ?_
    refine LW.nil (hK1 _ _ ?_)
    refine CW.seq fun K2 hK2 => ?_
    refine CW.seq fun K3 hK3 => ?_
    refine CW.region ?_
    refine LW.pure rfl rfl (RV.move rfl) ?_
    refine LW.pure rfl rfl (RV.len Ts36 rfl) ?_
    refine LW.pure rfl rfl (RV.eqi rfl rfl) ?_
    refine LW.nil (hK3 _ _ ?_)
    by_cases hp1 : ((a0.length : Int)) = 0
    ·
      replace F := ite_y hp1 F
      have hq1 := dec_t hp1
      refine CW.condT rfl hq1 ?_
      refine CW.seq fun K4 hK4 => ?_
      refine CW.region ?_
      refine LW.pure rfl rfl (RV.assign rfl) ?_
      refine LW.nil (hK4 _ _ ?_)
      refine CW.ret ?_
      obtain rfl := Option.some.inj F
      refine ⟨_, (ResOK.one rfl), ?_⟩
      refine ⟨(by first | rfl | simp), R0⟩
    ·
      replace F := ite_n hp1 F
      have hq1 := dec_f hp1
      refine CW.condF rfl hq1 ?_
      refine CW.skip (hK2 _ _ ?_)
      refine CW.seq fun K5 hK5 => ?_
      refine CW.region ?_
      refine LW.pure rfl rfl (RV.assign rfl) ?_
      refine LW.pure rfl rfl (RV.assign rfl) ?_
      refine LW.nil (hK5 _ _ ?_)
      refine CW.seqJ (fun ρ wl1 => (∃ (t3_1 : Int), ref01_det_k1 t3_1 = some res ∧ ρ = [(2, .int .i64 0), (3, .int .i64 t3_1)] ∧ Hp w wl1 [])) ?_ ?_
      ·
        rintro _ wl1 ⟨t3_1, F, rfl, H⟩
        have R0 := H.ext
        unfold ref01_det_k1 at F
        refine CW.seq fun K6 hK6 => ?_
        refine CW.region ?_
        refine LW.pure rfl rfl (RV.move rfl) ?_
        refine LW.pure rfl rfl (RV.assign rfl) ?_
        refine LW.nil (hK6 _ _ ?_)
        refine CW.ret ?_
        obtain rfl := Option.some.inj F
        refine ⟨_, (ResOK.one rfl), ?_⟩
        refine ⟨(by first | rfl | simp), R0⟩
      ·
        intro K7 hK7 jK458
        refine CW.seq fun K8 hK8 => ?_
        refine CW.region ?_
        refine LW.pure rfl rfl (RV.assign rfl) ?_
        refine LW.nil (hK8 _ _ ?_)
        refine CW.block ?_
        refine CW.loop (fun meas ρ wl2 => ∃ (t3_3 : Int) (t4_1 : Int) (t5_1 : Int), ref01_det_L2 a0 recf meas t3_3 t4_1 t5_1 = some res ∧ ρ = [(0, .slice A_a0 a0.length c_a0), (2, .int .i64 0), (3, .int .i64 t3_3), (4, .int .i64 t4_1), (5, .int .i64 t5_1)] ∧ Hp w wl2 []) FU ⟨_, ?_, ((0 : Int)), ((1 : Int)), ((0 : Int)), F, rfl, H⟩ ?_
        · exact ⟨rfl, rfl, rfl, rfl, rfl, trivial⟩
        rintro mk1 _ wl2 ⟨t3_3, t4_1, t5_1, F, rfl, H⟩
        have R0 := H.ext
        replace F := ref01_det_L2_s F
        obtain ⟨mk1, rfl, F⟩ := F
        generalize hrec1 : ref01_det_L2 a0 recf mk1 = rec1 at F
        unfold ref01_det_B2 at F
        refine CW.seq fun K9 hK9 => ?_
        refine CW.seq fun K10 hK10 => ?_
        refine CW.region ?_
        refine LW.pure rfl rfl (RV.move rfl) ?_
        refine LW.pure rfl rfl (RV.move rfl) ?_
        refine LW.pure rfl rfl (RV.len Ts36 rfl) ?_
        refine LW.pure rfl rfl (RV.lss rfl rfl) ?_
        refine LW.nil (hK10 _ _ ?_)
        by_cases hp2 : t5_1 < ((a0.length : Int))
        ·
          replace F := ite_y hp2 F
          have hq2 := dec_t hp2
          refine CW.condT rfl hq2 ?_
          refine CW.skip (hK9 _ _ ?_)
          refine CW.seqJ (fun ρ wl3 => (∃ (t3_2 : Int), ref01_det_k2 t4_1 t5_1 rec1 t3_2 = some res ∧ ρ = [(0, .slice A_a0 a0.length c_a0), (2, .int .i64 0), (3, .int .i64 t3_2), (4, .int .i64 (-t4_1)), (5, .int .i64 t5_1)] ∧ Hp w wl3 [])) ?_ ?_
          ·
            rintro _ wl3 ⟨t3_2, F, rfl, H⟩
            have R0 := H.ext
            unfold ref01_det_k2 at F
            obtain ⟨hg1, F⟩ := gd_some F
            refine CW.region ?_
            refine LW.pure rfl rfl (RV.move rfl) ?_
            refine LW.pure rfl rfl (RV.add rfl rfl hg1) ?_
            refine LW.pure rfl rfl (RV.assign rfl) ?_
            refine LW.nil ?_
            subst hrec1
            refine ⟨mk1, Nat.lt_succ_self _, _, ?_, t3_2, (-t4_1), (t5_1 + 1), F, rfl, H⟩
            exact ⟨rfl, rfl, rfl, rfl, rfl, trivial⟩
          ·
            intro K11 hK11 jK583
            refine CW.block ?_
            refine CW.seq fun K12 hK12 => ?_
            refine CW.region ?_
            refine LW.pure rfl rfl (RV.assign rfl) ?_
            refine LW.nil (hK12 _ _ ?_)
            refine CW.seqJ (fun ρ wl4 => (∃ (m1 : List (List Int)) (hsm1 : List (Option Addr × Nat)) (Am1 : Option Addr) (cm1 : Nat), ref01_det_k3 a0 recf t3_3 t4_1 t5_1 rec1 m1 = some res ∧ ρ = [(0, .slice A_a0 a0.length c_a0), (2, .int .i64 0), (3, .int .i64 t3_3), (4, .int .i64 t4_1), (5, .int .i64 t5_1), (6, .slice Am1 m1.length cm1)] ∧ Hp w wl4 [.tab Am1 cm1 39 hsm1 3 1 (encM encN m1)])) ?_ ?_
            ·
              rintro _ wl4 ⟨m1, hsm1, Am1, cm1, F, rfl, H⟩
              have R0 := H.ext
              unfold ref01_det_k3 at F
              refine CW.seq fun K13 hK13 => ?_
              obtain ⟨x1, hbx1, hx1, F⟩ := ix_some F
              obtain ⟨x2, hbx2, hx2, F⟩ := ix_some F
              obtain ⟨hg2, F⟩ := gd_some F
              obtain ⟨r1, hr1, F⟩ := bnd_some F
              obtain ⟨hg3, F⟩ := gd_some F
              obtain ⟨hg4, F⟩ := gd_some F
              refine CW.draw [] (fun _ => True) (.cons 0 1 (.cons 1 1 (.cons 2 1 (.cons 3 1 (.cons 4 1 (.cons 5 1 (.cons 6 1 (.cons 7 1 (.cons 8 1 (.cons 9 1 (.cons 10 0 (.cons 11 1 (.cons 12 1 (.cons 13 1 .nil)))))))))))))) mixed (by kernel_rfl) fun w1 E1 => ?_
              replace H := H.grow E1
              replace R0 := H.ext
              refine DW.fix rfl rfl rfl (fun _ EQ => RV.move rfl) ?_
              refine DW.fix rfl rfl rfl (fun _ EQ => RV.move rfl) ?_
              refine DW.fix rfl rfl rfl (fun _ EQ => RV.move rfl) ?_
              obtain ⟨A1, c1, hC1, hS1⟩ := h_a0.at_ hx1
              refine DW.fix rfl rfl rfl (fun _ EQ => RV.indexAddr Ts36 rfl rfl hbx1 (h_a0.addr hbx1)) ?_
              refine DW.fix rfl rfl rfl (fun _ EQ => RV.load1 Tk39 rfl (hC1.ext (R0.trans EQ)) rfl) ?_
              refine DW.fix rfl rfl rfl (fun _ EQ => RV.move rfl) ?_
              refine DW.fix rfl rfl rfl (fun _ EQ => RV.indexAddr Ts39 rfl rfl hbx2 (hS1.addr_ hx2)) ?_
              refine DW.fix rfl rfl rfl (fun _ EQ => RV.load1 Tk3 rfl ((hS1.at_ hx2).ext (R0.trans EQ)) rfl) ?_
              refine DW.fix rfl rfl rfl (fun _ EQ => RV.mul rfl rfl hg2) ?_
              refine DW.fix rfl rfl rfl (fun _ EQ => RV.move rfl) ?_
              refine DW.sole rfl rfl rfl (OW.call Tc99 rfl (ih (a0 := m1) (H.tab 0 rfl).sl2 hr1) ?_)
              rintro _ w2 ⟨rfl, E2⟩
              refine ⟨_, rfl, fun _ => E2, ModX.ext E2, ?_⟩
              replace H := H.grow E2
              replace R0 := H.ext
              refine DW.fix rfl rfl rfl (fun _ EQ => RV.mul rfl rfl hg3) ?_
              refine DW.fix rfl rfl rfl (fun _ EQ => RV.add rfl rfl hg4) ?_
              refine DW.fix rfl rfl rfl (fun _ EQ => RV.assign rfl) ?_
              refine DW.nil (hK13 _ _ ?_)
              obtain ⟨hg5, F⟩ := gd_some F
              refine CW.region ?_
              refine LW.pure rfl rfl (RV.move rfl) ?_
              refine LW.pure rfl rfl (RV.neg rfl hg5) ?_
              refine LW.pure rfl rfl (RV.assign rfl) ?_
              replace H := H.pick (L' := []) [] (by decide) rfl
              replace R0 := H.ext
              refine LW.nil (jK583 _ _ ⟨_, ?_, ⟨(t3_3 + ((t4_1 * x2) * r1)), F, rfl, H⟩⟩)
              exact ⟨rfl, rfl, rfl, rfl, rfl, trivial⟩
            ·
              intro K14 hK14 jK596
              refine CW.seq fun K15 hK15 => ?_
              refine CW.region ?_
              refine LW.pure rfl rfl (RV.assign rfl) ?_
              refine LW.nil (hK15 _ _ ?_)
              refine CW.block ?_
              replace H := H.nilTab encN 39 3 1
              replace R0 := H.ext
              refine CW.loop (fun meas ρ wl5 => ∃ (t7_1 : Int) (m2 : List (List Int)) (hsm2 : List (Option Addr × Nat)) (Am2 : Option Addr) (cm2 : Nat), ref01_det_L1 a0 recf t3_3 t4_1 t5_1 rec1 meas t7_1 m2 = some res ∧ ρ = [(0, .slice A_a0 a0.length c_a0), (2, .int .i64 0), (3, .int .i64 t3_3), (4, .int .i64 t4_1), (5, .int .i64 t5_1), (6, .slice Am2 m2.length cm2), (7, .int .i64 t7_1)] ∧ Hp w wl5 [.tab Am2 cm2 39 hsm2 3 1 (encM encN m2)]) FU ⟨_, ?_, ((1 : Int)), (([] : List (List Int))), ([]), none, 0, F, rfl, H⟩ ?_
              · exact ⟨rfl, rfl, rfl, rfl, rfl, (look_slice rfl (by first | rfl | (simp; done) | omega | (simp; omega))), rfl, trivial⟩
              rintro mk2 _ wl5 ⟨t7_1, m2, hsm2, Am2, cm2, F, rfl, H⟩
              have R0 := H.ext
              replace F := ref01_det_L1_s F
              obtain ⟨mk2, rfl, F⟩ := F
              generalize hrec2 : ref01_det_L1 a0 recf t3_3 t4_1 t5_1 rec1 mk2 = rec2 at F
              unfold ref01_det_B1 at F
              refine CW.seq fun K16 hK16 => ?_
              refine CW.seq fun K17 hK17 => ?_
              refine CW.region ?_
              refine LW.pure rfl rfl (RV.move rfl) ?_
              refine LW.pure rfl rfl (RV.move rfl) ?_
              refine LW.pure rfl rfl (RV.len Ts36 rfl) ?_
              refine LW.pure rfl rfl (RV.lss rfl rfl) ?_
              refine LW.nil (hK17 _ _ ?_)
              by_cases hp3 : t7_1 < ((a0.length : Int))
              ·
                replace F := ite_y hp3 F
                have hq3 := dec_t hp3
                refine CW.condT rfl hq3 ?_
                refine CW.skip (hK16 _ _ ?_)
                refine CW.seq fun K18 hK18 => ?_
                refine CW.block ?_
                obtain ⟨x3, hbx3, hx3, F⟩ := ix_some F
                obtain ⟨hg6, F⟩ := gd_some F
                obtain ⟨hg7, F⟩ := gd_some F
                obtain ⟨x4, hbx4, hx4, F⟩ := ix_some F
                obtain ⟨hg8, F⟩ := gd_some F
                obtain ⟨hg9, F⟩ := gd_some F
                obtain ⟨hg10, F⟩ := gd_some F
                obtain ⟨hg11, F⟩ := gd_some F
                have H0 := H
                have hz : wl5.heap.size ≤ wl5.heap.size := Nat.le_refl _
                refine CW.draw [8, 16, 18] (XB wl5 [.tab Am2 cm2 39 hsm2 3 1 (encM encN m2)] [0]) (.cons 0 2 (.cons 2 2 (.cons 3 2 (.cons 4 2 (.cons 5 2 (.cons 6 2 (.cons 7 2 (.cons 9 2 (.cons 10 2 (.cons 11 2 (.cons 12 2 (.cons 13 2 (.cons 14 2 (.cons 15 2 (.cons 1 0 (.cons 8 0 (.cons 16 0 (.cons 17 0 (.cons 18 0 (.cons 19 2 .nil)))))))))))))))))))) mixed (by kernel_rfl) fun w3 E3 => ?_
                replace H := H.grow E3
                replace R0 := H.ext
                replace hz := Nat.le_trans hz (Ext.size E3)
                refine DW.thru rfl rfl rfl (fun _ EQ => RV.move rfl) ?_
                refine DW.thru rfl rfl rfl (fun _ EQ => RV.move rfl) ?_
                refine DW.thru rfl rfl rfl (fun _ EQ => RV.move rfl) ?_
                obtain ⟨A2, c2, hC2, hS2⟩ := h_a0.at_ hx3
                refine DW.thru rfl rfl rfl (fun _ EQ => RV.indexAddr Ts36 rfl rfl hbx3 (h_a0.addr hbx3)) ?_
                refine DW.thru rfl rfl rfl (fun _ EQ => RV.load1 Tk39 rfl (H0.old EQ R0 hC2) rfl) ?_
                refine DW.thru rfl rfl rfl (fun _ EQ => RV.move rfl) ?_
                refine DW.thru rfl rfl rfl (fun _ EQ => RV.cutH (l := x3) Ts39 rfl rfl hg6 (hS2.ext R0).le rfl) ?_
                refine DW.thru rfl rfl rfl (fun _ EQ => RV.move rfl) ?_
                refine DW.thru rfl rfl rfl (fun _ EQ => RV.move rfl) ?_
                obtain ⟨A3, c3, hC3, hS3⟩ := h_a0.at_ hx4
                refine DW.thru rfl rfl rfl (fun _ EQ => RV.indexAddr Ts36 rfl rfl hbx4 (h_a0.addr hbx4)) ?_
                refine DW.thru rfl rfl rfl (fun _ EQ => RV.load1 Tk39 rfl (H0.old EQ R0 hC3) rfl) ?_
                refine DW.thru rfl rfl rfl (fun _ EQ => RV.move rfl) ?_
                refine DW.thru rfl rfl rfl (fun _ EQ => RV.add rfl rfl hg8) ?_
                refine DW.thru rfl rfl rfl (fun _ EQ => RV.cutL (l := x4) Ts39 rfl rfl hg9 (hS3.ext R0).le rfl) ?_
                refine DW.sole rfl rfl rfl (OW.buildSlice (e := 3) (vs := []) (cs := []) rfl (fun _ => by kernel_rfl) fun b1 w4 N1 => ?_)
                refine ⟨fun _ => N1.ext, ModX.ext N1.ext, ?_⟩
                have G0_b1 : wl5.heap.size ≤ b1 := by rw [N1.at_]; exact hz
                replace H := H.made' (k := 1) (t := 3) (enc := encN) (l := ([] : List Int)) N1 N1.blk (fun _ => rfl) rfl (by first | decide | omega | (simp; done) | (simp; omega))
                replace R0 := H.ext
                replace hz := Nat.le_trans hz (Ext.size N1.ext)
                refine DW.sole rfl rfl rfl (OW.appendG (enc := encN) (l := ([] : List Int)) (xs := (List.take (Int.toNat t5_1) x3)) Ts39 (look_slice rfl (by first | rfl | (simp; done) | (simp; omega))) rfl (H.own 0 rfl) ((hS2.ext R0).cutH hg6) (fun _ => rfl) rfl rfl hg7 (by decide) fun A4 c4 w5 O1 M1 D1 => ?_)
                have G0_A4 := Fresh.nextZ (Fresh.at_ G0_b1) D1 hz
                refine ⟨fun h => absurd h (by decide), M1.modx (XB.newA (Fresh.at_ G0_b1)), ?_⟩
                replace H : Hp w w5 [.own A4 c4 3 1 (List.map encN ((([] : List Int) ++ (List.take (Int.toNat t5_1) x3)))), .tab Am2 cm2 39 hsm2 3 1 (encM encN m2)] := H.mod 0 rfl M1 O1 D1
                replace R0 := H.ext
                replace hz := Nat.le_trans hz M1.size
                refine DW.sole rfl rfl rfl (OW.appendG (enc := encN) (l := (([] : List Int) ++ (List.take (Int.toNat t5_1) x3))) (xs := (List.drop (Int.toNat (t5_1 + 1)) x4)) Ts39 rfl rfl (H.own 0 rfl) ((hS3.ext R0).cutL hg9) (fun _ => rfl) rfl rfl hg10 (by decide) fun A5 c5 w6 O2 M2 D2 => ?_)
                have G0_A5 := Fresh.nextZ G0_A4 D2 hz
                refine ⟨fun h => absurd h (by decide), M2.modx (XB.newA G0_A4), ?_⟩
                replace H : Hp w w6 [.own A5 c5 3 1 (List.map encN (((([] : List Int) ++ (List.take (Int.toNat t5_1) x3)) ++ (List.drop (Int.toNat (t5_1 + 1)) x4)))), .tab Am2 cm2 39 hsm2 3 1 (encM encN m2)] := H.mod 0 rfl M2 O2 D2
                replace R0 := H.ext
                replace hz := Nat.le_trans hz M2.size
                refine DW.sole rfl rfl rfl (OW.buildSlice (e := 39) (vs := [.slice A5 ((((([] : List Int) ++ (List.take (Int.toNat t5_1) x3)) ++ (List.drop (Int.toNat (t5_1 + 1)) x4))).length) c5]) (cs := [.slice A5 ((((([] : List Int) ++ (List.take (Int.toNat t5_1) x3)) ++ (List.drop (Int.toNat (t5_1 + 1)) x4))).length) c5]) rfl (fun _ => by kernel_rfl) fun b2 w7 N2 => ?_)
                refine ⟨fun _ => N2.ext, ModX.ext N2.ext, ?_⟩
                have G0_b2 : wl5.heap.size ≤ b2 := by rw [N2.at_]; exact hz
                replace H := H.made' (k := 1) (t := 39) (enc := encH) (l := ([((A5, c5), List.map encN (((([] : List Int) ++ (List.take (Int.toNat t5_1) x3)) ++ (List.drop (Int.toNat (t5_1 + 1)) x4))))] : List ((Option Addr × Nat) × List (List Value)))) N2 (by have q := N2.blk; simp only [List.flatMap_cons, List.flatMap_nil, encH, List.length_map, List.append_nil, List.cons_append, List.nil_append]; first | done | exact q) (fun _ => rfl) rfl (by first | decide | omega | (simp; done) | (simp; omega))
                replace R0 := H.ext
                replace hz := Nat.le_trans hz (Ext.size N2.ext)
                refine DW.sole rfl rfl rfl (OW.appendT (enc := encN) (m := m2) (l := ((([] : List Int) ++ (List.take (Int.toNat t5_1) x3)) ++ (List.drop (Int.toNat (t5_1 + 1)) x4))) Ts36 rfl rfl (H.tab 2 rfl) (H.own 0 rfl).sl rfl hg11 (by decide) fun A6 c6 w8 O3 M3 D3 => ?_)
                refine ⟨fun h => absurd h (by decide), M3.modx (XB.tabO 0 (by decide) rfl), ?_⟩
                replace H : Hp w w8 [.own (some ⟨b2, 0, none⟩) ((([((A5, c5), List.map encN (((([] : List Int) ++ (List.take (Int.toNat t5_1) x3)) ++ (List.drop (Int.toNat (t5_1 + 1)) x4))))] : List ((Option Addr × Nat) × List (List Value)))).length) 39 1 (List.map encH (([((A5, c5), List.map encN (((([] : List Int) ++ (List.take (Int.toNat t5_1) x3)) ++ (List.drop (Int.toNat (t5_1 + 1)) x4))))] : List ((Option Addr × Nat) × List (List Value))))), .tab A6 c6 39 ((hsm2 ++ [(A5, c5)])) 3 1 (encM encN ((m2 ++ [((([] : List Int) ++ (List.take (Int.toNat t5_1) x3)) ++ (List.drop (Int.toNat (t5_1 + 1)) x4))])))] := H.tabPush 2 1 (by decide) rfl rfl M3 D3 O3
                replace R0 := H.ext
                replace hz := Nat.le_trans hz M3.size
                refine DW.thru rfl rfl rfl (fun _ EQ => RV.assign rfl) ?_
                refine DW.nil (hK18 _ _ ?_)
                obtain ⟨hg12, F⟩ := gd_some F
                refine CW.region ?_
                refine LW.pure rfl rfl (RV.move rfl) ?_
                refine LW.pure rfl rfl (RV.add rfl rfl hg12) ?_
                refine LW.pure rfl rfl (RV.assign rfl) ?_
                refine LW.nil ?_
                replace H := H.pick (L' := [.tab A6 c6 39 ((hsm2 ++ [(A5, c5)])) 3 1 (encM encN ((m2 ++ [((([] : List Int) ++ (List.take (Int.toNat t5_1) x3)) ++ (List.drop (Int.toNat (t5_1 + 1)) x4))])))]) [1] (by decide) rfl
                replace R0 := H.ext
                subst hrec2
                refine ⟨mk2, Nat.lt_succ_self _, _, ?_, (t7_1 + 1), ((m2 ++ [((([] : List Int) ++ (List.take (Int.toNat t5_1) x3)) ++ (List.drop (Int.toNat (t5_1 + 1)) x4))])), ((hsm2 ++ [(A5, c5)])), A6, c6, F, rfl, H⟩
                exact ⟨rfl, rfl, rfl, rfl, rfl, (look_slice rfl (by first | rfl | (simp; done) | omega | (simp; omega))), rfl, trivial⟩
              ·
                replace F := ite_n hp3 F
                have hq3 := dec_f hp3
                refine CW.condF rfl hq3 ?_
                refine CW.exit (jK596 _ _ ⟨_, ?_, ⟨m2, hsm2, Am2, cm2, F, rfl, H⟩⟩)
                exact ⟨rfl, rfl, rfl, rfl, rfl, (look_slice rfl (by first | rfl | (simp; done) | omega | (simp; omega))), trivial⟩
        ·
          replace F := ite_n hp2 F
          have hq2 := dec_f hp2
          refine CW.condF rfl hq2 ?_
          refine CW.exit (jK458 _ _ ⟨_, ?_, ⟨t3_3, F, rfl, H⟩⟩)
          exact ⟨rfl, rfl, trivial⟩
theorem ref01_det_ok {a0 : List (List Int)} {A_a0 : Option Addr} {c_a0 : Nat} {w : World} {res : Int} (h_a0 : Sl2 w A_a0 c_a0 1 encN a0) (F : ref01_det a0 = some res) : Calls Try.prog 99 #[.slice A_a0 a0.length c_a0] w (Rt w (.int .i64 res)) := ref01_det_F_ok FU h_a0 F
set_option maxRecDepth 20000 in
set_option maxHeartbeats 1000000 in
theorem ref01_Ratio_ok {a0 : Int} {a1 : Int} {w : World} {res : Rat} (F : ref01_Ratio a0 a1 = some res) : Calls Try.prog 33 #[.int .i64 a0, .int .i64 a1] w (Rt w (.agg #[.int .i64 res.num, .int .i64 res.den])) := by
  refine calls_of_cw (args := [.int .i64 a0, .int .i64 a1]) Try.func33 rfl rfl rfl rfl ?_
  have H := Hp.start w
  have R0 := H.ext
  unfold ref01_Ratio at F
  refine CW.seq fun K1 hK1 => ?_
  refine CW.region ?_
  refine LW.go rfl rfl (OW.alloc Tz28 fun b1 w1 N1 => ?_)
  replace H := H.new N1 N1.blk
  replace R0 := H.ext
  refine LW.nil (hK1 _ _ ?_)
  refine CW.seq fun K2 hK2 => ?_
  refine CW.region ?_
  refine LW.pure rfl rfl (RV.move rfl) ?_
  refine LW.pure rfl rfl (RV.move rfl) ?_
  refine LW.pure rfl rfl (RV.assign rfl) ?_
  refine LW.pure rfl rfl (RV.assign rfl) ?_
  refine LW.nil (hK2 _ _ ?_)
  refine CW.seqJ (fun ρ wl1 => (∃ (t5_2 : Int), ref01_Ratio_k2 a0 a1 t5_2 = some res ∧ ρ = [(0, .int .i64 a0), (1, .int .i64 a1), (4, .pointer (some (⟨b1, 0, none⟩))), (5, .int .i64 t5_2)] ∧ Hp w wl1 [.blk b1 28 [.int .i64 0, .int .i64 0]])) ?_ ?_
  ·
    rintro _ wl1 ⟨t5_2, F, rfl, H⟩
    have R0 := H.ext
    unfold ref01_Ratio_k2 at F
    refine CW.seqJ (fun ρ wl2 => (∃ (t5_1 : Int), ref01_Ratio_k1 a0 a1 t5_1 = some res ∧ ρ = [(0, .int .i64 a0), (1, .int .i64 a1), (4, .pointer (some (⟨b1, 0, none⟩))), (5, .int .i64 t5_1)] ∧ Hp w wl2 [.blk b1 28 [.int .i64 0, .int .i64 0]])) ?_ ?_
    ·
      rintro _ wl2 ⟨t5_1, F, rfl, H⟩
      have R0 := H.ext
      unfold ref01_Ratio_k1 at F
      refine CW.seq fun K3 hK3 => ?_
      obtain ⟨hg1, F⟩ := gd_some F
      obtain ⟨hg2, F⟩ := gd_some F
      refine CW.draw [7] (fun _ => True) (.cons 0 1 (.cons 1 1 (.cons 2 1 (.cons 3 1 (.cons 4 1 (.cons 5 1 (.cons 6 1 (.cons 7 0 .nil)))))))) mixed (by kernel_rfl) fun w2 E1 => ?_
      replace H := H.grow E1
      replace R0 := H.ext
      refine DW.fix rfl rfl rfl (fun _ EQ => RV.move rfl) ?_
      refine DW.fix rfl rfl rfl (fun _ EQ => RV.move rfl) ?_
      refine DW.fix rfl rfl rfl (fun _ EQ => RV.quo rfl rfl hg1) ?_
      refine DW.fix rfl rfl rfl (fun _ EQ => RV.move rfl) ?_
      refine DW.fix rfl rfl rfl (fun _ EQ => RV.move rfl) ?_
      refine DW.fix rfl rfl rfl (fun _ EQ => RV.quo rfl rfl hg2) ?_
      refine DW.fix rfl rfl rfl (fun _ EQ => RV.build (vs := [.int .i64 (Int.tdiv a0 t5_1), .int .i64 (Int.tdiv a1 t5_1)]) (cs := [.int .i64 (Int.tdiv a0 t5_1), .int .i64 (Int.tdiv a1 t5_1)]) rfl (fun _ => by kernel_rfl)) ?_
      refine DW.sole rfl rfl rfl (OW.store Tk28 rfl rfl (H.blk 0 rfl) (off := 0) (vs := [.int .i64 (Int.tdiv a0 t5_1), .int .i64 (Int.tdiv a1 t5_1)]) rfl rfl rfl rfl rfl fun w3 S1 => ?_)
      refine ⟨fun h => absurd h (by decide), S1.modx trivial, ?_⟩
      replace H : Hp w w3 [.blk b1 28 [.int .i64 (Int.tdiv a0 t5_1), .int .i64 (Int.tdiv a1 t5_1)]] := H.stored 0 rfl S1
      replace R0 := H.ext
      refine DW.nil (hK3 _ _ ?_)
      refine CW.ret ?_
      obtain rfl := Option.some.inj F
      refine ⟨_, (ResOK.cell1 ⟨_, rfl, run_loadVar_agg Tk28 (H.blk 0 rfl).cells (us := [.int .i64 (Int.tdiv a0 t5_1), .int .i64 (Int.tdiv a1 t5_1)]) rfl rfl⟩), ?_⟩
      refine ⟨(by first | rfl | simp), R0⟩
    ·
      intro K4 hK4 jK30
      refine CW.seq fun K5 hK5 => ?_
      refine CW.region ?_
      refine LW.pure rfl rfl (RV.move rfl) ?_
      refine LW.pure rfl rfl (RV.lss rfl rfl) ?_
      refine LW.pure rfl rfl (RV.move rfl) ?_
      refine LW.pure rfl rfl (RV.lss rfl rfl) ?_
      refine LW.pure rfl rfl (RV.neb Tb4 rfl rfl) ?_
      refine LW.nil (hK5 _ _ ?_)
      by_cases hp1 : ((decide (t5_2 < 0)) == (decide (a1 < 0))) = true
      ·
        replace F := ite_y hp1 F
        have hq1 : ((decide (t5_2 < 0)) == (decide (a1 < 0))) = true := hp1
        refine CW.condF rfl (not_f hq1) ?_
        refine CW.skip (jK30 _ _ ⟨_, ?_, ⟨t5_2, F, rfl, H⟩⟩)
        exact ⟨rfl, rfl, rfl, rfl, trivial⟩
      ·
        replace F := ite_n hp1 F
        have hq1 : ((decide (t5_2 < 0)) == (decide (a1 < 0))) = false := raw_f hp1
        refine CW.condT rfl (not_t hq1) ?_
        obtain ⟨hg3, F⟩ := gd_some F
        refine CW.region ?_
        refine LW.pure rfl rfl (RV.move rfl) ?_
        refine LW.pure rfl rfl (RV.neg rfl hg3) ?_
        refine LW.pure rfl rfl (RV.assign rfl) ?_
        refine LW.nil (jK30 _ _ ⟨_, ?_, ⟨(-t5_2), F, rfl, H⟩⟩)
        exact ⟨rfl, rfl, rfl, rfl, trivial⟩
  ·
    intro K6 hK6 jK32
    refine CW.block ?_
    refine CW.loop (fun meas ρ wl3 => ∃ (t5_3 : Int) (t6_1 : Int), ref01_Ratio_L1 a0 a1 meas t5_3 t6_1 = some res ∧ ρ = [(0, .int .i64 a0), (1, .int .i64 a1), (4, .pointer (some (⟨b1, 0, none⟩))), (5, .int .i64 t5_3), (6, .int .i64 t6_1)] ∧ Hp w wl3 [.blk b1 28 [.int .i64 0, .int .i64 0]]) FU ⟨_, ?_, a0, a1, F, rfl, H⟩ ?_
    · exact ⟨rfl, rfl, rfl, rfl, rfl, trivial⟩
    rintro mk1 _ wl3 ⟨t5_3, t6_1, F, rfl, H⟩
    have R0 := H.ext
    replace F := ref01_Ratio_L1_s F
    obtain ⟨mk1, rfl, F⟩ := F
    generalize hrec1 : ref01_Ratio_L1 a0 a1 mk1 = rec1 at F
    unfold ref01_Ratio_B1 at F
    refine CW.seq fun K7 hK7 => ?_
    refine CW.seq fun K8 hK8 => ?_
    refine CW.region ?_
    refine LW.pure rfl rfl (RV.move rfl) ?_
    refine LW.pure rfl rfl (RV.nei rfl rfl) ?_
    refine LW.nil (hK8 _ _ ?_)
    by_cases hp2 : t6_1 = 0
    ·
      replace F := ite_y hp2 F
      have hq2 := dec_t hp2
      refine CW.condF rfl (not_f hq2) ?_
      refine CW.exit (jK32 _ _ ⟨_, ?_, ⟨t5_3, F, rfl, H⟩⟩)
      exact ⟨rfl, rfl, rfl, rfl, trivial⟩
    ·
      replace F := ite_n hp2 F
      have hq2 := dec_f hp2
      refine CW.condT rfl (not_t hq2) ?_
      refine CW.skip (hK7 _ _ ?_)
      refine CW.block ?_
      obtain ⟨hg4, F⟩ := gd_some F
      refine CW.draw [] (fun _ => True) (.cons 0 1 (.cons 1 1 (.cons 2 1 (.cons 3 1 (.cons 4 1 (.cons 5 1 .nil)))))) mixed (by kernel_rfl) fun w4 E2 => ?_
      replace H := H.grow E2
      replace R0 := H.ext
      refine DW.fix rfl rfl rfl (fun _ EQ => RV.move rfl) ?_
      refine DW.fix rfl rfl rfl (fun _ EQ => RV.move rfl) ?_
      refine DW.fix rfl rfl rfl (fun _ EQ => RV.move rfl) ?_
      refine DW.fix rfl rfl rfl (fun _ EQ => RV.rem rfl rfl hg4) ?_
      refine DW.fix rfl rfl rfl (fun _ EQ => RV.assign rfl) ?_
      refine DW.fix rfl rfl rfl (fun _ EQ => RV.assign rfl) ?_
      refine DW.nil ?_
      subst hrec1
      refine ⟨mk1, Nat.lt_succ_self _, _, ?_, t6_1, (Int.tmod t5_3 t6_1), F, rfl, H⟩
      exact ⟨rfl, rfl, rfl, rfl, rfl, trivial⟩
set_option maxRecDepth 20000 in
set_option maxHeartbeats 1000000 in
theorem ref01_resistance_ok {a0 : Survey} {a1 : Int} {a2 : Int} {A_a0_readings : Option Addr} {c_a0_readings : Nat} {w : World} {res : Rat} (h_a0_readings : Sl w A_a0_readings c_a0_readings 4 (a0.readings.map encReading)) (F : ref01_resistance a0 a1 a2 = some res) : Calls Try.prog 65 #[.agg #[.int .i64 a0.points, .slice A_a0_readings a0.readings.length c_a0_readings], .int .i64 a1, .int .i64 a2] w (Rt w (.agg #[.int .i64 res.num, .int .i64 res.den])) := by
  refine calls_of_cw (args := [.agg #[.int .i64 a0.points, .slice A_a0_readings a0.readings.length c_a0_readings], .int .i64 a1, .int .i64 a2]) Try.func65 rfl rfl rfl rfl ?_
  have H := Hp.start w
  have R0 := H.ext
  unfold ref01_resistance at F
  refine CW.seq fun K1 hK1 => ?_
  refine CW.region ?_
  refine LW.go rfl rfl (OW.box rfl fun b1 w1 N1 => ?_)
  replace H := H.new N1 N1.blk
  replace R0 := H.ext
  refine LW.go rfl rfl (OW.alloc Tz28 fun b2 w2 N2 => ?_)
  replace H := H.new N2 N2.blk
  replace R0 := H.ext
  refine LW.nil (hK1 _ _ ?_)
  refine CW.seq fun K2 hK2 => ?_
  refine CW.seq fun K3 hK3 => ?_
  refine CW.region ?_
  refine LW.pure rfl rfl (RV.move rfl) ?_
  refine LW.pure rfl rfl (RV.move rfl) ?_
  refine LW.pure rfl rfl (RV.eqi rfl rfl) ?_
  refine LW.nil (hK3 _ _ ?_)
  by_cases hp1 : a1 = a2
  ·
    replace F := ite_y hp1 F
    have hq1 := dec_t hp1
    refine CW.condT rfl hq1 ?_
    refine CW.seq fun K4 hK4 => ?_
    refine CW.region ?_
    refine LW.pure rfl rfl (RV.build (vs := [.int .i64 0, .int .i64 1]) (cs := [.int .i64 0, .int .i64 1]) rfl (fun _ => by kernel_rfl)) ?_
    refine LW.go rfl rfl (OW.store Tk28 rfl rfl (H.blk 0 rfl) (off := 0) (vs := [.int .i64 0, .int .i64 1]) rfl rfl rfl rfl rfl fun w3 S1 => ?_)
    replace H : Hp w w3 [.blk b2 28 [.int .i64 0, .int .i64 1], .blk b1 24 [.int .i64 a0.points, .slice A_a0_readings a0.readings.length c_a0_readings]] := H.stored 0 rfl S1
    replace R0 := H.ext
    refine LW.nil (hK4 _ _ ?_)
    refine CW.ret ?_
    obtain rfl := Option.some.inj F
    refine ⟨_, (ResOK.cell1 ⟨_, rfl, run_loadVar_agg Tk28 (H.blk 0 rfl).cells (us := [.int .i64 0, .int .i64 1]) rfl rfl⟩), ?_⟩
    refine ⟨(by first | rfl | simp), R0⟩
  ·
    replace F := ite_n hp1 F
    have hq1 := dec_f hp1
    refine CW.condF rfl hq1 ?_
    refine CW.skip (hK2 _ _ ?_)
    refine CW.seq fun K5 hK5 => ?_
    obtain ⟨r6, hr6, F⟩ := bnd_some F
    refine CW.region ?_
    refine LW.pure rfl rfl (RV.loadA [.int .i64 a0.points, .slice A_a0_readings a0.readings.length c_a0_readings] Tk24 rfl (H.blk 1 rfl).cells rfl rfl) ?_
    refine LW.go rfl rfl (OW.call Tc67 rfl (ref01_whole_ok (a0 := a0) (h_a0_readings.ext R0) hr6) ?_)
    rintro _ w4 ⟨A8_0, c8_0, rfl, E1⟩
    refine ⟨_, rfl, ?_⟩
    replace H : Hp w w4 [.own A8_0 c8_0 3 1 (List.map encN r6), .blk b2 28 [.int .i64 0, .int .i64 0], .blk b1 24 [.int .i64 a0.points, .slice A_a0_readings a0.readings.length c_a0_readings]] := H.append E1
    replace R0 := H.ext
    refine LW.pure rfl rfl (RV.assign rfl) ?_
    refine LW.nil (hK5 _ _ ?_)
    refine CW.seq fun K6 hK6 => ?_
    refine CW.region ?_
    refine LW.pure rfl rfl (RV.assign rfl) ?_
    refine LW.pure rfl rfl (RV.assign rfl) ?_
    refine LW.nil (hK6 _ _ ?_)
    refine CW.seqJ (fun ρ wl1 => (∃ (l1 : List Int) (l2 : List Int) (Al1 : Option Addr) (cl1 : Nat) (Al2 : Option Addr) (cl2 : Nat), ref01_resistance_k1 a0 l1 l2 = some res ∧ ρ = [(3, .pointer (some (⟨b1, 0, none⟩))), (6, .pointer (some (⟨b2, 0, none⟩))), (8, .slice Al1 l1.length cl1), (9, .slice Al2 l2.length cl2)] ∧ Hp w wl1 [.own Al1 cl1 3 1 (List.map encN l1), .own Al2 cl2 3 1 (List.map encN l2), .blk b1 24 [.int .i64 a0.points, .slice A_a0_readings a0.readings.length c_a0_readings], .blk b2 28 [.int .i64 0, .int .i64 0]])) ?_ ?_
    ·
      rintro _ wl1 ⟨l1, l2, Al1, cl1, Al2, cl2, F, rfl, H⟩
      have R0 := H.ext
      unfold ref01_resistance_k1 at F
      refine CW.seq fun K7 hK7 => ?_
      obtain ⟨r1, hr1, F⟩ := bnd_some F
      obtain ⟨r2, hr2, F⟩ := bnd_some F
      obtain ⟨r3, hr3, F⟩ := bnd_some F
      obtain ⟨r4, hr4, F⟩ := bnd_some F
      obtain ⟨r5, hr5, F⟩ := bnd_some F
      refine CW.draw [9] (fun _ => True) (.cons 0 1 (.cons 1 1 (.cons 4 1 (.cons 5 1 (.cons 2 0 (.cons 3 0 (.cons 6 0 (.cons 7 0 (.cons 8 0 (.cons 9 0 .nil)))))))))) mixed (by kernel_rfl) fun w5 E2 => ?_
      replace H := H.grow E2
      replace R0 := H.ext
      refine DW.fix rfl rfl rfl (fun _ EQ => RV.loadA [.int .i64 a0.points, .slice A_a0_readings a0.readings.length c_a0_readings] Tk24 rfl ((H.grow EQ).blk 2 rfl).cells rfl rfl) ?_
      refine DW.fix rfl rfl rfl (fun _ EQ => RV.move rfl) ?_
      refine DW.fix rfl rfl rfl (fun _ EQ => RV.loadA [.int .i64 a0.points, .slice A_a0_readings a0.readings.length c_a0_readings] Tk24 rfl ((H.grow EQ).blk 2 rfl).cells rfl rfl) ?_
      refine DW.fix rfl rfl rfl (fun _ EQ => RV.move rfl) ?_
      refine DW.sole rfl rfl rfl (OW.call Tc100 rfl (ref01_laplace_ok (a0 := a0) (a1 := l2) (h_a0_readings.ext R0) (H.own 1 rfl).sl hr1) ?_)
      rintro _ w6 ⟨A14_0, c14_0, hs14_0, rfl, E3⟩
      refine ⟨_, rfl, fun _ => E3.ext, ModX.ext E3.ext, ?_⟩
      replace H : Hp w w6 [.tab A14_0 c14_0 39 hs14_0 3 1 (encM encN r1), .own Al1 cl1 3 1 (List.map encN l1), .own Al2 cl2 3 1 (List.map encN l2), .blk b1 24 [.int .i64 a0.points, .slice A_a0_readings a0.readings.length c_a0_readings], .blk b2 28 [.int .i64 0, .int .i64 0]] := H.append E3
      replace R0 := H.ext
      refine DW.sole rfl rfl rfl (OW.call Tc99 rfl (ref01_det_ok (a0 := r1) (H.tab 0 rfl).sl2 hr2) ?_)
      rintro _ w7 ⟨rfl, E4⟩
      refine ⟨_, rfl, fun _ => E4, ModX.ext E4, ?_⟩
      replace H := H.grow E4
      replace R0 := H.ext
      refine DW.sole rfl rfl rfl (OW.call Tc100 rfl (ref01_laplace_ok (a0 := a0) (a1 := l1) (h_a0_readings.ext R0) (H.own 1 rfl).sl hr3) ?_)
      rintro _ w8 ⟨A16_0, c16_0, hs16_0, rfl, E5⟩
      refine ⟨_, rfl, fun _ => E5.ext, ModX.ext E5.ext, ?_⟩
      replace H : Hp w w8 [.tab A16_0 c16_0 39 hs16_0 3 1 (encM encN r3), .tab A14_0 c14_0 39 hs14_0 3 1 (encM encN r1), .own Al1 cl1 3 1 (List.map encN l1), .own Al2 cl2 3 1 (List.map encN l2), .blk b1 24 [.int .i64 a0.points, .slice A_a0_readings a0.readings.length c_a0_readings], .blk b2 28 [.int .i64 0, .int .i64 0]] := H.append E5
      replace R0 := H.ext
      refine DW.sole rfl rfl rfl (OW.call Tc99 rfl (ref01_det_ok (a0 := r3) (H.tab 0 rfl).sl2 hr4) ?_)
      rintro _ w9 ⟨rfl, E6⟩
      refine ⟨_, rfl, fun _ => E6, ModX.ext E6, ?_⟩
      replace H := H.grow E6
      replace R0 := H.ext
      refine DW.sole rfl rfl rfl (OW.call Tc33 rfl (ref01_Ratio_ok (a0 := r2) (a1 := r4) hr5) ?_)
      rintro _ w10 ⟨rfl, E7⟩
      refine ⟨_, rfl, fun _ => E7, ModX.ext E7, ?_⟩
      replace H := H.grow E7
      replace R0 := H.ext
      refine DW.sole rfl rfl rfl (OW.store Tk28 rfl rfl (H.blk 5 rfl) (off := 0) (vs := [.int .i64 r5.num, .int .i64 r5.den]) rfl rfl rfl rfl rfl fun w11 S2 => ?_)
      refine ⟨fun h => absurd h (by decide), S2.modx trivial, ?_⟩
      replace H : Hp w w11 [.tab A16_0 c16_0 39 hs16_0 3 1 (encM encN r3), .tab A14_0 c14_0 39 hs14_0 3 1 (encM encN r1), .own Al1 cl1 3 1 (List.map encN l1), .own Al2 cl2 3 1 (List.map encN l2), .blk b1 24 [.int .i64 a0.points, .slice A_a0_readings a0.readings.length c_a0_readings], .blk b2 28 [.int .i64 r5.num, .int .i64 r5.den]] := H.stored 5 rfl S2
      replace R0 := H.ext
      refine DW.nil (hK7 _ _ ?_)
      refine CW.ret ?_
      obtain rfl := Option.some.inj F
      refine ⟨_, (ResOK.cell1 ⟨_, rfl, run_loadVar_agg Tk28 (H.blk 5 rfl).cells (us := [.int .i64 r5.num, .int .i64 r5.den]) rfl rfl⟩), ?_⟩
      refine ⟨(by first | rfl | simp), R0⟩
    ·
      intro K8 hK8 jK100
      refine CW.seq fun K9 hK9 => ?_
      refine CW.region ?_
      refine LW.pure rfl rfl (RV.assign rfl) ?_
      refine LW.nil (hK9 _ _ ?_)
      refine CW.block ?_
      replace H := H.nilOwn 3 1
      replace R0 := H.ext
      replace H := H.nilOwn 3 1
      replace R0 := H.ext
      replace H := H.pick (L' := [.own A8_0 c8_0 3 1 (List.map encN r6), .own none 0 3 1 (List.map encN (([] : List Int))), .own none 0 3 1 (List.map encN (([] : List Int))), .blk b1 24 [.int .i64 a0.points, .slice A_a0_readings a0.readings.length c_a0_readings], .blk b2 28 [.int .i64 0, .int .i64 0]]) [2, 1, 0, 4, 3] (by decide) rfl
      replace R0 := H.ext
      refine CW.loop (fun meas ρ wl2 => ∃ (t10_1 : Int) (l5 : List Int) (l6 : List Int) (Al5 : Option Addr) (cl5 : Nat) (Al6 : Option Addr) (cl6 : Nat), ref01_resistance_L1 a0 a1 a2 r6 meas t10_1 l5 l6 = some res ∧ ρ = [(1, .int .i64 a1), (2, .int .i64 a2), (3, .pointer (some (⟨b1, 0, none⟩))), (6, .pointer (some (⟨b2, 0, none⟩))), (7, .slice A8_0 r6.length c8_0), (8, .slice Al5 l5.length cl5), (9, .slice Al6 l6.length cl6), (10, .int .i64 t10_1)] ∧ Hp w wl2 [.own A8_0 c8_0 3 1 (List.map encN r6), .own Al5 cl5 3 1 (List.map encN l5), .own Al6 cl6 3 1 (List.map encN l6), .blk b1 24 [.int .i64 a0.points, .slice A_a0_readings a0.readings.length c_a0_readings], .blk b2 28 [.int .i64 0, .int .i64 0]]) FU ⟨_, ?_, ((0 : Int)), (([] : List Int)), (([] : List Int)), none, 0, none, 0, F, rfl, H⟩ ?_
      · exact ⟨rfl, rfl, rfl, rfl, (look_slice rfl (by first | rfl | (simp; done) | omega | (simp; omega))), (look_slice rfl (by first | rfl | (simp; done) | omega | (simp; omega))), (look_slice rfl (by first | rfl | (simp; done) | omega | (simp; omega))), rfl, trivial⟩
      rintro mk1 _ wl2 ⟨t10_1, l5, l6, Al5, cl5, Al6, cl6, F, rfl, H⟩
      have R0 := H.ext
      replace F := ref01_resistance_L1_s F
      obtain ⟨mk1, rfl, F⟩ := F
      generalize hrec1 : ref01_resistance_L1 a0 a1 a2 r6 mk1 = rec1 at F
      unfold ref01_resistance_B1 at F
      refine CW.seq fun K10 hK10 => ?_
      refine CW.seq fun K11 hK11 => ?_
      refine CW.region ?_
      refine LW.pure rfl rfl (RV.move rfl) ?_
      refine LW.pure rfl rfl (RV.fieldAddr Tf24_0 rfl) ?_
      refine LW.pure rfl rfl (RV.load1 Tk3 rfl ((H.blk 3 rfl).cells.off 0) rfl) ?_
      refine LW.pure rfl rfl (RV.lss rfl rfl) ?_
      refine LW.nil (hK11 _ _ ?_)
      by_cases hp2 : t10_1 < a0.points
      ·
        replace F := ite_y hp2 F
        have hq2 := dec_t hp2
        refine CW.condT rfl hq2 ?_
        refine CW.skip (hK10 _ _ ?_)
        refine CW.seqJ (fun ρ wl3 => (∃ (l3 : List Int) (l4 : List Int) (Al3 : Option Addr) (cl3 : Nat) (Al4 : Option Addr) (cl4 : Nat), ref01_resistance_k2 t10_1 rec1 l3 l4 = some res ∧ ρ = [(1, .int .i64 a1), (2, .int .i64 a2), (3, .pointer (some (⟨b1, 0, none⟩))), (6, .pointer (some (⟨b2, 0, none⟩))), (7, .slice A8_0 r6.length c8_0), (8, .slice Al3 l3.length cl3), (9, .slice Al4 l4.length cl4), (10, .int .i64 t10_1)] ∧ Hp w wl3 [.own A8_0 c8_0 3 1 (List.map encN r6), .own Al3 cl3 3 1 (List.map encN l3), .own Al4 cl4 3 1 (List.map encN l4), .blk b1 24 [.int .i64 a0.points, .slice A_a0_readings a0.readings.length c_a0_readings], .blk b2 28 [.int .i64 0, .int .i64 0]])) ?_ ?_
        ·
          rintro _ wl3 ⟨l3, l4, Al3, cl3, Al4, cl4, F, rfl, H⟩
          have R0 := H.ext
          unfold ref01_resistance_k2 at F
          obtain ⟨hg1, F⟩ := gd_some F
          refine CW.region ?_
          refine LW.pure rfl rfl (RV.move rfl) ?_
          refine LW.pure rfl rfl (RV.add rfl rfl hg1) ?_
          refine LW.pure rfl rfl (RV.assign rfl) ?_
          refine LW.nil ?_
          subst hrec1
          refine ⟨mk1, Nat.lt_succ_self _, _, ?_, (t10_1 + 1), l3, l4, Al3, cl3, Al4, cl4, F, rfl, H⟩
          exact ⟨rfl, rfl, rfl, rfl, (look_slice rfl (by first | rfl | (simp; done) | omega | (simp; omega))), (look_slice rfl (by first | rfl | (simp; done) | omega | (simp; omega))), (look_slice rfl (by first | rfl | (simp; done) | omega | (simp; omega))), rfl, trivial⟩
        ·
          intro K12 hK12 jK125
          refine CW.block ?_
          refine CW.seqJ (fun ρ wl4 => (∃ (t36_1 : Bool), ref01_resistance_k3 a2 t10_1 l5 l6 rec1 t36_1 = some res ∧ ρ = [(1, .int .i64 a1), (2, .int .i64 a2), (3, .pointer (some (⟨b1, 0, none⟩))), (6, .pointer (some (⟨b2, 0, none⟩))), (7, .slice A8_0 r6.length c8_0), (8, .slice Al5 l5.length cl5), (9, .slice Al6 l6.length cl6), (10, .int .i64 t10_1), (36, .bool t36_1)] ∧ Hp w wl4 [.own A8_0 c8_0 3 1 (List.map encN r6), .own Al5 cl5 3 1 (List.map encN l5), .own Al6 cl6 3 1 (List.map encN l6), .blk b1 24 [.int .i64 a0.points, .slice A_a0_readings a0.readings.length c_a0_readings], .blk b2 28 [.int .i64 0, .int .i64 0]])) ?_ ?_
          ·
            rintro _ wl4 ⟨t36_1, F, rfl, H⟩
            have R0 := H.ext
            unfold ref01_resistance_k3 at F
            by_cases hp3 : t36_1 = true
            ·
              replace F := ite_y hp3 F
              have hq3 : t36_1 = true := hp3
              refine CW.condT rfl hq3 ?_
              refine CW.seq fun K13 hK13 => ?_
              obtain ⟨hg2, F⟩ := gd_some F
              refine CW.region ?_
              refine LW.pure rfl rfl (RV.move rfl) ?_
              refine LW.pure rfl rfl (RV.move rfl) ?_
              refine LW.go rfl rfl (OW.buildSlice (e := 3) (vs := [.int .i64 t10_1]) (cs := [.int .i64 t10_1]) rfl (fun _ => by kernel_rfl) fun b3 w12 N3 => ?_)
              replace H := H.made' (k := 1) (t := 3) (enc := encN) (l := ([t10_1] : List Int)) N3 N3.blk (fun _ => rfl) rfl (by first | decide | omega | (simp; done) | (simp; omega))
              replace R0 := H.ext
              refine LW.go rfl rfl (OW.appendG (enc := encN) (l := l5) (xs := ([t10_1] : List Int)) Ts39 rfl (look_slice rfl (by first | rfl | (simp; done) | (simp; omega))) (H.own 2 rfl) (H.own 0 rfl).sl (fun _ => rfl) rfl rfl hg2 (by decide) fun A1 c1 w13 O1 M1 D1 => ?_)
              replace H : Hp w w13 [.own (some ⟨b3, 0, none⟩) ((([t10_1] : List Int)).length) 3 1 (List.map encN (([t10_1] : List Int))), .own A8_0 c8_0 3 1 (List.map encN r6), .own A1 c1 3 1 (List.map encN ((l5 ++ ([t10_1] : List Int)))), .own Al6 cl6 3 1 (List.map encN l6), .blk b1 24 [.int .i64 a0.points, .slice A_a0_readings a0.readings.length c_a0_readings], .blk b2 28 [.int .i64 0, .int .i64 0]] := H.mod 2 rfl M1 O1 D1
              replace R0 := H.ext
              refine LW.pure rfl rfl (RV.assign rfl) ?_
              refine LW.nil (hK13 _ _ ?_)
              refine CW.seq fun K14 hK14 => ?_
              refine CW.region ?_
              refine LW.pure rfl rfl (RV.move rfl) ?_
              refine LW.pure rfl rfl (RV.move rfl) ?_
              refine LW.pure rfl rfl (RV.nei rfl rfl) ?_
              refine LW.nil (hK14 _ _ ?_)
              by_cases hp4 : t10_1 = a2
              ·
                replace F := ite_y hp4 F
                have hq4 := dec_t hp4
                refine CW.condF rfl (not_f hq4) ?_
                replace H := H.pick (L' := [.own A8_0 c8_0 3 1 (List.map encN r6), .own A1 c1 3 1 (List.map encN ((l5 ++ ([t10_1] : List Int)))), .own Al6 cl6 3 1 (List.map encN l6), .blk b1 24 [.int .i64 a0.points, .slice A_a0_readings a0.readings.length c_a0_readings], .blk b2 28 [.int .i64 0, .int .i64 0]]) [1, 2, 3, 4, 5] (by decide) rfl
                replace R0 := H.ext
                refine CW.skip (jK125 _ _ ⟨_, ?_, ⟨((l5 ++ ([t10_1] : List Int))), l6, A1, c1, Al6, cl6, F, rfl, H⟩⟩)
                exact ⟨rfl, rfl, rfl, rfl, (look_slice rfl (by first | rfl | (simp; done) | omega | (simp; omega))), (look_slice rfl (by first | rfl | (simp; done) | omega | (simp; omega))), (look_slice rfl (by first | rfl | (simp; done) | omega | (simp; omega))), rfl, trivial⟩
              ·
                replace F := ite_n hp4 F
                have hq4 := dec_f hp4
                refine CW.condT rfl (not_t hq4) ?_
                obtain ⟨hg3, F⟩ := gd_some F
                refine CW.region ?_
                refine LW.pure rfl rfl (RV.move rfl) ?_
                refine LW.pure rfl rfl (RV.move rfl) ?_
                refine LW.go rfl rfl (OW.buildSlice (e := 3) (vs := [.int .i64 t10_1]) (cs := [.int .i64 t10_1]) rfl (fun _ => by kernel_rfl) fun b4 w14 N4 => ?_)
                replace H := H.made' (k := 1) (t := 3) (enc := encN) (l := ([t10_1] : List Int)) N4 N4.blk (fun _ => rfl) rfl (by first | decide | omega | (simp; done) | (simp; omega))
                replace R0 := H.ext
                refine LW.go rfl rfl (OW.appendG (enc := encN) (l := l6) (xs := ([t10_1] : List Int)) Ts39 rfl (look_slice rfl (by first | rfl | (simp; done) | (simp; omega))) (H.own 4 rfl) (H.own 0 rfl).sl (fun _ => rfl) rfl rfl hg3 (by decide) fun A2 c2 w15 O2 M2 D2 => ?_)
                replace H : Hp w w15 [.own (some ⟨b4, 0, none⟩) ((([t10_1] : List Int)).length) 3 1 (List.map encN (([t10_1] : List Int))), .own (some ⟨b3, 0, none⟩) ((([t10_1] : List Int)).length) 3 1 (List.map encN (([t10_1] : List Int))), .own A8_0 c8_0 3 1 (List.map encN r6), .own A1 c1 3 1 (List.map encN ((l5 ++ ([t10_1] : List Int)))), .own A2 c2 3 1 (List.map encN ((l6 ++ ([t10_1] : List Int)))), .blk b1 24 [.int .i64 a0.points, .slice A_a0_readings a0.readings.length c_a0_readings], .blk b2 28 [.int .i64 0, .int .i64 0]] := H.mod 4 rfl M2 O2 D2
                replace R0 := H.ext
                refine LW.pure rfl rfl (RV.assign rfl) ?_
                replace H := H.pick (L' := [.own A8_0 c8_0 3 1 (List.map encN r6), .own A1 c1 3 1 (List.map encN ((l5 ++ ([t10_1] : List Int)))), .own A2 c2 3 1 (List.map encN ((l6 ++ ([t10_1] : List Int)))), .blk b1 24 [.int .i64 a0.points, .slice A_a0_readings a0.readings.length c_a0_readings], .blk b2 28 [.int .i64 0, .int .i64 0]]) [2, 3, 4, 5, 6] (by decide) rfl
                replace R0 := H.ext
                refine LW.nil (jK125 _ _ ⟨_, ?_, ⟨((l5 ++ ([t10_1] : List Int))), ((l6 ++ ([t10_1] : List Int))), A1, c1, A2, c2, F, rfl, H⟩⟩)
                exact ⟨rfl, rfl, rfl, rfl, (look_slice rfl (by first | rfl | (simp; done) | omega | (simp; omega))), (look_slice rfl (by first | rfl | (simp; done) | omega | (simp; omega))), (look_slice rfl (by first | rfl | (simp; done) | omega | (simp; omega))), rfl, trivial⟩
            ·
              replace F := ite_n hp3 F
              have hq3 : t36_1 = false := raw_f hp3
              refine CW.condF rfl hq3 ?_
              refine CW.skip (jK125 _ _ ⟨_, ?_, ⟨l5, l6, Al5, cl5, Al6, cl6, F, rfl, H⟩⟩)
              exact ⟨rfl, rfl, rfl, rfl, (look_slice rfl (by first | rfl | (simp; done) | omega | (simp; omega))), (look_slice rfl (by first | rfl | (simp; done) | omega | (simp; omega))), (look_slice rfl (by first | rfl | (simp; done) | omega | (simp; omega))), rfl, trivial⟩
          ·
            intro K15 hK15 jK128
            obtain ⟨x1, hbx1, hx1, F⟩ := ix_some F
            obtain ⟨x2, hbx2, hx2, F⟩ := ix_some F
            by_cases hp5 : x1 = x2
            ·
              replace F := ite_y hp5 F
              have hq5 := dec_t hp5
              refine CW.draw [] (fun _ => True) (.cons 0 1 (.cons 1 1 (.cons 2 1 (.cons 3 1 (.cons 4 1 (.cons 5 1 (.cons 6 1 (.cons 7 1 (.cons 8 1 (.cons 9 1 (.cons 10 1 (.cons 11 1 (.cons 12 1 (.cons 13 1 .nil)))))))))))))) mixed (by kernel_rfl) fun w16 E8 => ?_
              replace H := H.grow E8
              replace R0 := H.ext
              refine DW.fix rfl rfl rfl (fun _ EQ => RV.move rfl) ?_
              refine DW.fix rfl rfl rfl (fun _ EQ => RV.move rfl) ?_
              refine DW.fix rfl rfl rfl (fun _ EQ => RV.indexAddr Ts39 rfl rfl hbx1 ((H.own 0 rfl).sl.addr_ hx1)) ?_
              refine DW.fix rfl rfl rfl (fun _ EQ => RV.load1 Tk3 rfl (((H.grow EQ).own 0 rfl).sl.at_ hx1) rfl) ?_
              refine DW.fix rfl rfl rfl (fun _ EQ => RV.move rfl) ?_
              refine DW.fix rfl rfl rfl (fun _ EQ => RV.move rfl) ?_
              refine DW.fix rfl rfl rfl (fun _ EQ => RV.indexAddr Ts39 rfl rfl hbx2 ((H.own 0 rfl).sl.addr_ hx2)) ?_
              refine DW.fix rfl rfl rfl (fun _ EQ => RV.load1 Tk3 rfl (((H.grow EQ).own 0 rfl).sl.at_ hx2) rfl) ?_
              refine DW.fix rfl rfl rfl (fun _ EQ => RV.eqi rfl rfl) ?_
              refine DW.fix rfl rfl rfl (fun _ EQ => RV.move rfl) ?_
              refine DW.fixYB rfl rfl rfl rfl rfl hq5 (fun _ EQ => RV.move rfl) ?_
              refine DW.fixYB rfl rfl rfl rfl rfl hq5 (fun _ EQ => RV.move rfl) ?_
              refine DW.fixYB rfl rfl rfl rfl rfl hq5 (fun _ EQ => RV.nei rfl rfl) ?_
              refine DW.fix rfl rfl rfl (fun _ EQ => RV.pickTB rfl hq5 rfl) ?_
              refine DW.nil (jK128 _ _ ⟨_, ?_, ⟨(!(decide (t10_1 = a1))), F, rfl, H⟩⟩)
              exact ⟨rfl, rfl, rfl, rfl, (look_slice rfl (by first | rfl | (simp; done) | omega | (simp; omega))), (look_slice rfl (by first | rfl | (simp; done) | omega | (simp; omega))), (look_slice rfl (by first | rfl | (simp; done) | omega | (simp; omega))), rfl, rfl, trivial⟩
            ·
              replace F := ite_n hp5 F
              have hq5 := dec_f hp5
              refine CW.draw [] (fun _ => True) (.cons 0 1 (.cons 1 1 (.cons 2 1 (.cons 3 1 (.cons 4 1 (.cons 5 1 (.cons 6 1 (.cons 7 1 (.cons 8 1 (.cons 9 1 (.cons 10 1 (.cons 11 1 (.cons 12 1 (.cons 13 1 .nil)))))))))))))) mixed (by kernel_rfl) fun w17 E9 => ?_
              replace H := H.grow E9
              replace R0 := H.ext
              refine DW.fix rfl rfl rfl (fun _ EQ => RV.move rfl) ?_
              refine DW.fix rfl rfl rfl (fun _ EQ => RV.move rfl) ?_
              refine DW.fix rfl rfl rfl (fun _ EQ => RV.indexAddr Ts39 rfl rfl hbx1 ((H.own 0 rfl).sl.addr_ hx1)) ?_
              refine DW.fix rfl rfl rfl (fun _ EQ => RV.load1 Tk3 rfl (((H.grow EQ).own 0 rfl).sl.at_ hx1) rfl) ?_
              refine DW.fix rfl rfl rfl (fun _ EQ => RV.move rfl) ?_
              refine DW.fix rfl rfl rfl (fun _ EQ => RV.move rfl) ?_
              refine DW.fix rfl rfl rfl (fun _ EQ => RV.indexAddr Ts39 rfl rfl hbx2 ((H.own 0 rfl).sl.addr_ hx2)) ?_
              refine DW.fix rfl rfl rfl (fun _ EQ => RV.load1 Tk3 rfl (((H.grow EQ).own 0 rfl).sl.at_ hx2) rfl) ?_
              refine DW.fix rfl rfl rfl (fun _ EQ => RV.eqi rfl rfl) ?_
              refine DW.fix rfl rfl rfl (fun _ EQ => RV.move rfl) ?_
              refine DW.fixNB rfl rfl rfl rfl rfl (ne_beq (v := false) hq5 rfl) ?_
              refine DW.fixNB rfl rfl rfl rfl rfl (ne_beq (v := false) hq5 rfl) ?_
              refine DW.fixNB rfl rfl rfl rfl rfl (ne_beq (v := false) hq5 rfl) ?_
              refine DW.fix rfl rfl rfl (fun _ EQ => RV.pickFB rfl hq5 rfl) ?_
              refine DW.nil (jK128 _ _ ⟨_, ?_, ⟨false, F, rfl, H⟩⟩)
              exact ⟨rfl, rfl, rfl, rfl, (look_slice rfl (by first | rfl | (simp; done) | omega | (simp; omega))), (look_slice rfl (by first | rfl | (simp; done) | omega | (simp; omega))), (look_slice rfl (by first | rfl | (simp; done) | omega | (simp; omega))), rfl, rfl, trivial⟩
      ·
        replace F := ite_n hp2 F
        have hq2 := dec_f hp2
        refine CW.condF rfl hq2 ?_
        replace H := H.pick (L' := [.own Al5 cl5 3 1 (List.map encN l5), .own Al6 cl6 3 1 (List.map encN l6), .blk b1 24 [.int .i64 a0.points, .slice A_a0_readings a0.readings.length c_a0_readings], .blk b2 28 [.int .i64 0, .int .i64 0]]) [1, 2, 3, 4] (by decide) rfl
        replace R0 := H.ext
        refine CW.exit (jK100 _ _ ⟨_, ?_, ⟨l5, l6, Al5, cl5, Al6, cl6, F, rfl, H⟩⟩)
        exact ⟨rfl, rfl, (look_slice rfl (by first | rfl | (simp; done) | omega | (simp; omega))), (look_slice rfl (by first | rfl | (simp; done) | omega | (simp; omega))), trivial⟩
end Go.D1

set_option linter.unusedVariables false
set_option linter.unusedSimpArgs false
namespace Go.D1
open Go.Tb Go.Proofs Go.RowKit
theorem Tc65 : callable Try.prog 65 = true := by kernel_rfl
end Go.D1

set_option linter.unusedVariables false
set_option linter.unusedSimpArgs false
namespace Go.D1
open Go.Tb Go.Proofs Go.RowKit
theorem Tc70 : callable Try.prog 70 = true := by kernel_rfl
set_option maxRecDepth 20000 in
set_option maxHeartbeats 1000000 in
theorem slices_Clone_Reading_ok {a0 : List Reading} {A_a0 : Option Addr} {c_a0 : Nat} {w : World} {res : List Reading} (h_a0 : Sl w A_a0 c_a0 4 (a0.map encReading)) (F : slices_Clone_Reading a0 = some res) : Calls Try.prog 70 #[.slice A_a0 a0.length c_a0] w (fun e w' => ∃ (A0 : Option Addr) (c0 : Nat), e = .returned (.slice A0 res.length c0) ∧ Hp w w' [.own A0 c0 46 4 (List.map encReading res)]) := by
  cases A_a0 with
  | none =>
    obtain rfl := Sl.none_nil h_a0
    refine calls_of_cw (args := [.slice none (([] : List Reading).length) c_a0]) Try.func70 rfl rfl rfl rfl ?_
    have H := Hp.start w
    have R0 := H.ext
    unfold slices_Clone_Reading at F
    obtain ⟨_, F⟩ := gd_some F
    refine CW.seq fun K1 hK1 => ?_
    refine CW.region ?_
    refine LW.pure rfl rfl (RV.assign rfl) ?_
    refine LW.nil (hK1 _ _ ?_)
    refine CW.seq fun K2 hK2 => ?_
    refine CW.seq fun K3 hK3 => ?_
    refine CW.region ?_
    refine LW.pure rfl rfl (RV.move rfl) ?_
    refine LW.pure rfl rfl (RV.eqnil Ts22 rfl rfl) ?_
    refine LW.nil (hK3 _ _ ?_)
    refine CW.condT rfl rfl ?_
    refine CW.seq fun K4 hK4 => ?_
    refine CW.region ?_
    refine LW.pure rfl rfl (RV.assign rfl) ?_
    refine LW.nil (hK4 _ _ ?_)
    refine CW.ret ?_
    obtain rfl := Option.some.inj F
    refine ⟨_, (ResOK.one rfl), ?_⟩
    replace H := H.nilOwn 46 4
    replace R0 := H.ext
    exact ⟨none, 0, (by first | rfl | (simp; done) | (simp; omega)), H⟩
  | some ad =>
    refine calls_of_cw (args := [.slice ((some ad)) a0.length c_a0]) Try.func70 rfl rfl rfl rfl ?_
    have H := Hp.start w
    have R0 := H.ext
    unfold slices_Clone_Reading at F
    refine CW.seq fun K1 hK1 => ?_
    refine CW.region ?_
    refine LW.pure rfl rfl (RV.assign rfl) ?_
    refine LW.nil (hK1 _ _ ?_)
    refine CW.seq fun K2 hK2 => ?_
    refine CW.seq fun K3 hK3 => ?_
    refine CW.region ?_
    refine LW.pure rfl rfl (RV.move rfl) ?_
    refine LW.pure rfl rfl (RV.eqnil Ts22 rfl rfl) ?_
    refine LW.nil (hK3 _ _ ?_)
    refine CW.condF rfl rfl ?_
    refine CW.skip (hK2 _ _ ?_)
    refine CW.seq fun K4 hK4 => ?_
    obtain ⟨hg1, F⟩ := gd_some F
    refine CW.region ?_
    refine LW.go rfl rfl (OW.buildSlice (e := 46) (vs := []) (cs := []) rfl (fun _ => by kernel_rfl) fun b2 w3 N2 => ?_)
    replace H := H.made' (k := 4) (t := 46) (enc := encReading) (l := ([] : List Reading)) N2 N2.blk (fun _ => rfl) rfl (by first | decide | omega | (simp; done) | (simp; omega))
    replace R0 := H.ext
    refine LW.pure rfl rfl (RV.move rfl) ?_
    refine LW.go rfl rfl (OW.appendG (enc := encReading) (l := ([] : List Reading)) (xs := a0) Ts22 (look_slice rfl (by first | rfl | (simp; done) | (simp; omega))) rfl (H.own 0 rfl) (h_a0.ext R0) (fun _ => rfl) rfl rfl hg1 (by decide) fun A2 c2 w4 O2 M2 D2 => ?_)
    replace H : Hp w w4 [.own A2 c2 46 4 (List.map encReading ((([] : List Reading) ++ a0)))] := H.mod 0 rfl M2 O2 D2
    replace R0 := H.ext
    refine LW.pure rfl rfl (RV.assign rfl) ?_
    refine LW.nil (hK4 _ _ ?_)
    refine CW.ret ?_
    obtain rfl := Option.some.inj F
    refine ⟨_, (ResOK.one rfl), ?_⟩
    exact ⟨A2, c2, (by first | rfl | (simp; done) | (simp; omega)), H⟩
end Go.D1

set_option linter.unusedVariables false
set_option linter.unusedSimpArgs false
namespace Go.D1
open Go.Tb Go.Proofs Go.RowKit
theorem Tc107 : callable Try.prog 107 = true := by kernel_rfl
theorem Tc72 : callable Try.prog 72 = true := by kernel_rfl
theorem Tc84 : callable Try.prog 84 = true := by kernel_rfl
theorem Tc85 : callable Try.prog 85 = true := by kernel_rfl
set_option maxRecDepth 20000 in
set_option maxHeartbeats 1000000 in
theorem level_reading_ok {a0 : Survey} {a1 : Int} {A_a0_readings : Option Addr} {c_a0_readings : Nat} {w : World} {res : Int} (h_a0_readings : Sl w A_a0_readings c_a0_readings 4 (a0.readings.map encReading)) (F : level_reading a0 a1 = some res) : Calls Try.prog 72 #[.agg #[.int .i64 a0.points, .slice A_a0_readings a0.readings.length c_a0_readings], .int .i64 a1] w (Rt w (.int .i64 res)) := by
  refine calls_of_cw (args := [.agg #[.int .i64 a0.points, .slice A_a0_readings a0.readings.length c_a0_readings], .int .i64 a1]) Try.func72 rfl rfl rfl rfl ?_
  have H := Hp.start w
  have R0 := H.ext
  unfold level_reading at F
  refine CW.seq fun K1 hK1 => ?_
  refine CW.region ?_
  refine LW.go rfl rfl (OW.box rfl fun b1 w1 N1 => ?_)
  replace H := H.new N1 N1.blk
  replace R0 := H.ext
  refine LW.pure rfl rfl (RV.assign rfl) ?_
  refine LW.nil (hK1 _ _ ?_)
  refine CW.seq fun K2 hK2 => ?_
  refine CW.seq fun K3 hK3 => ?_
  obtain ⟨r1, hr1, F⟩ := bnd_some F
  refine CW.region ?_
  refine LW.pure rfl rfl (RV.loadA [.int .i64 a0.points, .slice A_a0_readings a0.readings.length c_a0_readings] Tk24 rfl (H.blk 0 rfl).cells rfl rfl) ?_
  refine LW.go rfl rfl (OW.call Tc25 rfl (level_Validate_ok (a0 := a0) (h_a0_readings.ext R0) hr1) ?_)
  rintro _ w2 ⟨rfl, E1⟩
  refine ⟨_, rfl, ?_⟩
  replace H := H.grow E1
  replace R0 := H.ext
  refine LW.pure rfl rfl (RV.assign rfl) ?_
  refine LW.nil (hK3 _ _ ?_)
  refine CW.seq fun K4 hK4 => ?_
  refine CW.region ?_
  refine LW.pure rfl rfl (RV.move rfl) ?_
  refine LW.pure rfl rfl (RV.nei rfl rfl) ?_
  refine LW.nil (hK4 _ _ ?_)
  by_cases hp1 : r1 = 0
  ·
    replace F := ite_y hp1 F
    have hq1 := dec_t hp1
    refine CW.condF rfl (not_f hq1) ?_
    refine CW.skip (hK2 _ _ ?_)
    refine CW.seq fun K5 hK5 => ?_
    refine CW.seq fun K6 hK6 => ?_
    obtain ⟨hg1, F⟩ := gd_some F
    obtain ⟨r2, hr2, F⟩ := bnd_some F
    refine CW.region ?_
    refine LW.pure rfl rfl (RV.move rfl) ?_
    refine LW.pure rfl rfl (RV.fieldAddr Tf24_1 rfl) ?_
    refine LW.pure rfl rfl (RV.load1 Tk22 rfl ((H.blk 0 rfl).cells.off 1) rfl) ?_
    refine LW.pure rfl rfl (RV.len Ts22 rfl) ?_
    refine LW.pure rfl rfl (RV.sub rfl rfl hg1) ?_
    refine LW.go rfl rfl (OW.call Tc61 rfl (level_within_ok (a0 := a1) (a1 := (0 : Int)) (a2 := ((a0.readings.length : Int)) - 1) hr2) ?_)
    rintro _ w3 ⟨rfl, E2⟩
    refine ⟨_, rfl, ?_⟩
    replace H := H.grow E2
    replace R0 := H.ext
    refine LW.pure rfl rfl (RV.not rfl) ?_
    refine LW.nil (hK6 _ _ ?_)
    by_cases hp2 : r2 = true
    ·
      replace F := ite_y hp2 F
      have hq2 : r2 = true := hp2
      refine CW.condF rfl (not_f hq2) ?_
      refine CW.skip (hK5 _ _ ?_)
      refine CW.seq fun K7 hK7 => ?_
      refine CW.region ?_
      refine LW.pure rfl rfl (RV.assign rfl) ?_
      refine LW.nil (hK7 _ _ ?_)
      refine CW.ret ?_
      obtain rfl := Option.some.inj F
      refine ⟨_, (ResOK.one rfl), ?_⟩
      refine ⟨(by first | rfl | simp), R0⟩
    ·
      replace F := ite_n hp2 F
      have hq2 : r2 = false := raw_f hp2
      refine CW.condT rfl (not_t hq2) ?_
      refine CW.seq fun K8 hK8 => ?_
      refine CW.region ?_
      refine LW.pure rfl rfl (RV.assign rfl) ?_
      refine LW.nil (hK8 _ _ ?_)
      refine CW.ret ?_
      obtain rfl := Option.some.inj F
      refine ⟨_, (ResOK.one rfl), ?_⟩
      refine ⟨(by first | rfl | simp), R0⟩
  ·
    replace F := ite_n hp1 F
    have hq1 := dec_f hp1
    refine CW.condT rfl (not_t hq1) ?_
    refine CW.seq fun K9 hK9 => ?_
    refine CW.region ?_
    refine LW.pure rfl rfl (RV.move rfl) ?_
    refine LW.pure rfl rfl (RV.assign rfl) ?_
    refine LW.nil (hK9 _ _ ?_)
    refine CW.ret ?_
    obtain rfl := Option.some.inj F
    refine ⟨_, (ResOK.one rfl), ?_⟩
    refine ⟨(by first | rfl | simp), R0⟩
set_option maxRecDepth 20000 in
set_option maxHeartbeats 1000000 in
theorem level_Share_ok {a0 : Survey} {a1 : Int} {A_a0_readings : Option Addr} {c_a0_readings : Nat} {w : World} {res : Rat × Int} (h_a0_readings : Sl w A_a0_readings c_a0_readings 4 (a0.readings.map encReading)) (F : level_Share a0 a1 = some res) : Calls Try.prog 32 #[.agg #[.int .i64 a0.points, .slice A_a0_readings a0.readings.length c_a0_readings], .int .i64 a1] w (Rt w (.tuple #[.agg #[.int .i64 res.1.num, .int .i64 res.1.den], .int .i64 res.2])) := by
  refine calls_of_cw (args := [.agg #[.int .i64 a0.points, .slice A_a0_readings a0.readings.length c_a0_readings], .int .i64 a1]) Try.func32 rfl rfl rfl rfl ?_
  have H := Hp.start w
  have R0 := H.ext
  unfold level_Share at F
  refine CW.seq fun K1 hK1 => ?_
  refine CW.region ?_
  refine LW.go rfl rfl (OW.box rfl fun b1 w1 N1 => ?_)
  replace H := H.new N1 N1.blk
  replace R0 := H.ext
  refine LW.go rfl rfl (OW.alloc Tz28 fun b2 w2 N2 => ?_)
  replace H := H.new N2 N2.blk
  replace R0 := H.ext
  refine LW.pure rfl rfl (RV.assign rfl) ?_
  refine LW.nil (hK1 _ _ ?_)
  refine CW.seq fun K2 hK2 => ?_
  refine CW.seq fun K3 hK3 => ?_
  obtain ⟨r1, hr1, F⟩ := bnd_some F
  refine CW.region ?_
  refine LW.pure rfl rfl (RV.loadA [.int .i64 a0.points, .slice A_a0_readings a0.readings.length c_a0_readings] Tk24 rfl (H.blk 1 rfl).cells rfl rfl) ?_
  refine LW.pure rfl rfl (RV.move rfl) ?_
  refine LW.go rfl rfl (OW.call Tc72 rfl (level_reading_ok (a0 := a0) (a1 := a1) (h_a0_readings.ext R0) hr1) ?_)
  rintro _ w3 ⟨rfl, E1⟩
  refine ⟨_, rfl, ?_⟩
  replace H := H.grow E1
  replace R0 := H.ext
  refine LW.pure rfl rfl (RV.assign rfl) ?_
  refine LW.nil (hK3 _ _ ?_)
  refine CW.seq fun K4 hK4 => ?_
  refine CW.region ?_
  refine LW.pure rfl rfl (RV.move rfl) ?_
  refine LW.pure rfl rfl (RV.nei rfl rfl) ?_
  refine LW.nil (hK4 _ _ ?_)
  by_cases hp1 : r1 = 0
  ·
    replace F := ite_y hp1 F
    have hq1 := dec_t hp1
    refine CW.condF rfl (not_f hq1) ?_
    refine CW.skip (hK2 _ _ ?_)
    refine CW.seq fun K5 hK5 => ?_
    obtain ⟨x1, hbx1, hx1, F⟩ := ix_some F
    refine CW.region ?_
    refine LW.pure rfl rfl (RV.fieldAddr Tf24_1 rfl) ?_
    refine LW.pure rfl rfl (RV.load1 Tk22 rfl ((H.blk 1 rfl).cells.off 1) rfl) ?_
    refine LW.pure rfl rfl (RV.move rfl) ?_
    refine LW.pure rfl rfl (RV.indexAddr Ts22 rfl rfl hbx1 (h_a0_readings.addr_ hx1)) ?_
    refine LW.pure rfl rfl (RV.loadA [.int .i64 x1.from_, .int .i64 x1.to_, .int .i64 x1.rise, .int .i64 x1.weight] Tk46 rfl ((h_a0_readings.at_ hx1).ext R0) rfl rfl) ?_
    refine LW.go rfl rfl (OW.alloc Tz46 fun b3 w4 N3 => ?_)
    replace H := H.new N3 N3.blk
    replace R0 := H.ext
    refine LW.go rfl rfl (OW.store Tk46 rfl rfl (H.blk 0 rfl) (off := 0) (vs := [.int .i64 x1.from_, .int .i64 x1.to_, .int .i64 x1.rise, .int .i64 x1.weight]) rfl rfl rfl rfl rfl fun w5 S1 => ?_)
    replace H : Hp w w5 [.blk b3 46 [.int .i64 x1.from_, .int .i64 x1.to_, .int .i64 x1.rise, .int .i64 x1.weight], .blk b2 28 [.int .i64 0, .int .i64 0], .blk b1 24 [.int .i64 a0.points, .slice A_a0_readings a0.readings.length c_a0_readings]] := H.stored 0 rfl S1
    replace R0 := H.ext
    refine LW.nil (hK5 _ _ ?_)
    refine CW.seq fun K6 hK6 => ?_
    obtain ⟨r2, hr2, F⟩ := bnd_some F
    obtain ⟨r3, hr3, F⟩ := bnd_some F
    refine CW.draw [10] (fun _ => True) (.cons 0 1 (.cons 1 1 (.cons 2 1 (.cons 3 1 (.cons 4 1 (.cons 5 1 (.cons 6 1 (.cons 7 1 (.cons 8 0 (.cons 9 0 (.cons 10 0 (.cons 11 2 .nil)))))))))))) mixed (by kernel_rfl) fun w6 E2 => ?_
    replace H := H.grow E2
    replace R0 := H.ext
    refine DW.fix rfl rfl rfl (fun _ EQ => RV.fieldAddr Tf46_3 rfl) ?_
    refine DW.fix rfl rfl rfl (fun _ EQ => RV.load1 Tk3 rfl (((H.grow EQ).blk 0 rfl).cells.off 3) rfl) ?_
    refine DW.fix rfl rfl rfl (fun _ EQ => RV.build (vs := [.int .i64 x1.weight, .int .i64 1]) (cs := [.int .i64 x1.weight, .int .i64 1]) rfl (fun _ => by kernel_rfl)) ?_
    refine DW.fix rfl rfl rfl (fun _ EQ => RV.loadA [.int .i64 a0.points, .slice A_a0_readings a0.readings.length c_a0_readings] Tk24 rfl ((H.grow EQ).blk 2 rfl).cells rfl rfl) ?_
    refine DW.fix rfl rfl rfl (fun _ EQ => RV.fieldAddr Tf46_0 rfl) ?_
    refine DW.fix rfl rfl rfl (fun _ EQ => RV.load1 Tk3 rfl (((H.grow EQ).blk 0 rfl).cells.off 0) rfl) ?_
    refine DW.fix rfl rfl rfl (fun _ EQ => RV.fieldAddr Tf46_1 rfl) ?_
    refine DW.fix rfl rfl rfl (fun _ EQ => RV.load1 Tk3 rfl (((H.grow EQ).blk 0 rfl).cells.off 1) rfl) ?_
    refine DW.sole rfl rfl rfl (OW.call Tc63 rfl (level_resist_ok (a0 := a0) (a1 := x1.from_) (a2 := x1.to_) (h_a0_readings.ext R0) hr2) ?_)
    rintro _ w7 ⟨rfl, E3⟩
    refine ⟨_, rfl, fun _ => E3, ModX.ext E3, ?_⟩
    replace H := H.grow E3
    replace R0 := H.ext
    refine DW.sole rfl rfl rfl (OW.call Tc73 rfl (level_mul_ok (a0 := (⟨x1.weight, 1⟩ : Rat)) (a1 := r2) hr3) ?_)
    rintro _ w8 ⟨rfl, E4⟩
    refine ⟨_, rfl, fun _ => E4, ModX.ext E4, ?_⟩
    replace H := H.grow E4
    replace R0 := H.ext
    refine DW.sole rfl rfl rfl (OW.store Tk28 rfl rfl (H.blk 1 rfl) (off := 0) (vs := [.int .i64 r3.num, .int .i64 r3.den]) rfl rfl rfl rfl rfl fun w9 S2 => ?_)
    refine ⟨fun h => absurd h (by decide), S2.modx trivial, ?_⟩
    replace H : Hp w w9 [.blk b3 46 [.int .i64 x1.from_, .int .i64 x1.to_, .int .i64 x1.rise, .int .i64 x1.weight], .blk b2 28 [.int .i64 r3.num, .int .i64 r3.den], .blk b1 24 [.int .i64 a0.points, .slice A_a0_readings a0.readings.length c_a0_readings]] := H.stored 1 rfl S2
    replace R0 := H.ext
    refine DW.thru rfl rfl rfl (fun _ EQ => RV.assign rfl) ?_
    refine DW.nil (hK6 _ _ ?_)
    refine CW.ret ?_
    obtain rfl := Option.some.inj F
    refine ⟨_, (ResOK.two ⟨_, rfl, run_loadVar_agg Tk28 (H.blk 1 rfl).cells (us := [.int .i64 r3.num, .int .i64 r3.den]) rfl rfl⟩ rfl), ?_⟩
    refine ⟨(by first | rfl | simp), R0⟩
  ·
    replace F := ite_n hp1 F
    have hq1 := dec_f hp1
    refine CW.condT rfl (not_t hq1) ?_
    refine CW.seq fun K7 hK7 => ?_
    refine CW.region ?_
    refine LW.pure rfl rfl (RV.build (vs := []) (cs := [.int .i64 0, .int .i64 0]) rfl (fun _ => by kernel_rfl)) ?_
    refine LW.pure rfl rfl (RV.move rfl) ?_
    refine LW.go rfl rfl (OW.store Tk28 rfl rfl (H.blk 0 rfl) (off := 0) (vs := [.int .i64 0, .int .i64 0]) rfl rfl rfl rfl rfl fun w10 S3 => ?_)
    replace H : Hp w w10 [.blk b2 28 [.int .i64 0, .int .i64 0], .blk b1 24 [.int .i64 a0.points, .slice A_a0_readings a0.readings.length c_a0_readings]] := H.stored 0 rfl S3
    replace R0 := H.ext
    refine LW.pure rfl rfl (RV.assign rfl) ?_
    refine LW.nil (hK7 _ _ ?_)
    refine CW.ret ?_
    obtain rfl := Option.some.inj F
    refine ⟨_, (ResOK.two ⟨_, rfl, run_loadVar_agg Tk28 (H.blk 0 rfl).cells (us := [.int .i64 0, .int .i64 0]) rfl rfl⟩ rfl), ?_⟩
    refine ⟨(by first | rfl | simp), R0⟩
set_option maxRecDepth 20000 in
set_option maxHeartbeats 1000000 in
theorem ref01_numbered_ok {a0 : Survey} {a1 : Int} {A_a0_readings : Option Addr} {c_a0_readings : Nat} {w : World} {res : Int} (h_a0_readings : Sl w A_a0_readings c_a0_readings 4 (a0.readings.map encReading)) (F : ref01_numbered a0 a1 = some res) : Calls Try.prog 84 #[.agg #[.int .i64 a0.points, .slice A_a0_readings a0.readings.length c_a0_readings], .int .i64 a1] w (Rt w (.int .i64 res)) := by
  refine calls_of_cw (args := [.agg #[.int .i64 a0.points, .slice A_a0_readings a0.readings.length c_a0_readings], .int .i64 a1]) Try.func84 rfl rfl rfl rfl ?_
  have H := Hp.start w
  have R0 := H.ext
  unfold ref01_numbered at F
  refine CW.seq fun K1 hK1 => ?_
  refine CW.region ?_
  refine LW.go rfl rfl (OW.box rfl fun b1 w1 N1 => ?_)
  replace H := H.new N1 N1.blk
  replace R0 := H.ext
  refine LW.pure rfl rfl (RV.assign rfl) ?_
  refine LW.nil (hK1 _ _ ?_)
  refine CW.seq fun K2 hK2 => ?_
  refine CW.seq fun K3 hK3 => ?_
  obtain ⟨r1, hr1, F⟩ := bnd_some F
  refine CW.region ?_
  refine LW.pure rfl rfl (RV.loadA [.int .i64 a0.points, .slice A_a0_readings a0.readings.length c_a0_readings] Tk24 rfl (H.blk 0 rfl).cells rfl rfl) ?_
  refine LW.go rfl rfl (OW.call Tc26 rfl (ref01_Validate_ok (a0 := a0) (h_a0_readings.ext R0) hr1) ?_)
  rintro _ w2 ⟨rfl, E1⟩
  refine ⟨_, rfl, ?_⟩
  replace H := H.grow E1
  replace R0 := H.ext
  refine LW.pure rfl rfl (RV.assign rfl) ?_
  refine LW.nil (hK3 _ _ ?_)
  refine CW.seq fun K4 hK4 => ?_
  refine CW.region ?_
  refine LW.pure rfl rfl (RV.move rfl) ?_
  refine LW.pure rfl rfl (RV.nei rfl rfl) ?_
  refine LW.nil (hK4 _ _ ?_)
  by_cases hp1 : r1 = 0
  ·
    replace F := ite_y hp1 F
    have hq1 := dec_t hp1
    refine CW.condF rfl (not_f hq1) ?_
    refine CW.skip (hK2 _ _ ?_)
    refine CW.seq fun K5 hK5 => ?_
    refine CW.seq fun K6 hK6 => ?_
    obtain ⟨hg1, F⟩ := gd_some F
    obtain ⟨r2, hr2, F⟩ := bnd_some F
    refine CW.region ?_
    refine LW.pure rfl rfl (RV.move rfl) ?_
    refine LW.pure rfl rfl (RV.fieldAddr Tf24_1 rfl) ?_
    refine LW.pure rfl rfl (RV.load1 Tk22 rfl ((H.blk 0 rfl).cells.off 1) rfl) ?_
    refine LW.pure rfl rfl (RV.len Ts22 rfl) ?_
    refine LW.pure rfl rfl (RV.sub rfl rfl hg1) ?_
    refine LW.go rfl rfl (OW.call Tc69 rfl (ref01_within_ok (a0 := a1) (a1 := (0 : Int)) (a2 := ((a0.readings.length : Int)) - 1) hr2) ?_)
    rintro _ w3 ⟨rfl, E2⟩
    refine ⟨_, rfl, ?_⟩
    replace H := H.grow E2
    replace R0 := H.ext
    refine LW.pure rfl rfl (RV.not rfl) ?_
    refine LW.nil (hK6 _ _ ?_)
    by_cases hp2 : r2 = true
    ·
      replace F := ite_y hp2 F
      have hq2 : r2 = true := hp2
      refine CW.condF rfl (not_f hq2) ?_
      refine CW.skip (hK5 _ _ ?_)
      refine CW.seq fun K7 hK7 => ?_
      refine CW.region ?_
      refine LW.pure rfl rfl (RV.assign rfl) ?_
      refine LW.nil (hK7 _ _ ?_)
      refine CW.ret ?_
      obtain rfl := Option.some.inj F
      refine ⟨_, (ResOK.one rfl), ?_⟩
      refine ⟨(by first | rfl | simp), R0⟩
    ·
      replace F := ite_n hp2 F
      have hq2 : r2 = false := raw_f hp2
      refine CW.condT rfl (not_t hq2) ?_
      refine CW.seq fun K8 hK8 => ?_
      refine CW.region ?_
      refine LW.pure rfl rfl (RV.assign rfl) ?_
      refine LW.nil (hK8 _ _ ?_)
      refine CW.ret ?_
      obtain rfl := Option.some.inj F
      refine ⟨_, (ResOK.one rfl), ?_⟩
      refine ⟨(by first | rfl | simp), R0⟩
  ·
    replace F := ite_n hp1 F
    have hq1 := dec_f hp1
    refine CW.condT rfl (not_t hq1) ?_
    refine CW.seq fun K9 hK9 => ?_
    refine CW.region ?_
    refine LW.pure rfl rfl (RV.move rfl) ?_
    refine LW.pure rfl rfl (RV.assign rfl) ?_
    refine LW.nil (hK9 _ _ ?_)
    refine CW.ret ?_
    obtain rfl := Option.some.inj F
    refine ⟨_, (ResOK.one rfl), ?_⟩
    refine ⟨(by first | rfl | simp), R0⟩
set_option maxRecDepth 20000 in
set_option maxHeartbeats 1000000 in
theorem ref01_Share_ok {a0 : Survey} {a1 : Int} {A_a0_readings : Option Addr} {c_a0_readings : Nat} {w : World} {res : Rat × Int} (h_a0_readings : Sl w A_a0_readings c_a0_readings 4 (a0.readings.map encReading)) (F : ref01_Share a0 a1 = some res) : Calls Try.prog 43 #[.agg #[.int .i64 a0.points, .slice A_a0_readings a0.readings.length c_a0_readings], .int .i64 a1] w (Rt w (.tuple #[.agg #[.int .i64 res.1.num, .int .i64 res.1.den], .int .i64 res.2])) := by
  refine calls_of_cw (args := [.agg #[.int .i64 a0.points, .slice A_a0_readings a0.readings.length c_a0_readings], .int .i64 a1]) Try.func43 rfl rfl rfl rfl ?_
  have H := Hp.start w
  have R0 := H.ext
  unfold ref01_Share at F
  refine CW.seq fun K1 hK1 => ?_
  refine CW.region ?_
  refine LW.go rfl rfl (OW.box rfl fun b1 w1 N1 => ?_)
  replace H := H.new N1 N1.blk
  replace R0 := H.ext
  refine LW.go rfl rfl (OW.alloc Tz28 fun b2 w2 N2 => ?_)
  replace H := H.new N2 N2.blk
  replace R0 := H.ext
  refine LW.pure rfl rfl (RV.assign rfl) ?_
  refine LW.nil (hK1 _ _ ?_)
  refine CW.seq fun K2 hK2 => ?_
  refine CW.seq fun K3 hK3 => ?_
  obtain ⟨r1, hr1, F⟩ := bnd_some F
  refine CW.region ?_
  refine LW.pure rfl rfl (RV.loadA [.int .i64 a0.points, .slice A_a0_readings a0.readings.length c_a0_readings] Tk24 rfl (H.blk 1 rfl).cells rfl rfl) ?_
  refine LW.pure rfl rfl (RV.move rfl) ?_
  refine LW.go rfl rfl (OW.call Tc84 rfl (ref01_numbered_ok (a0 := a0) (a1 := a1) (h_a0_readings.ext R0) hr1) ?_)
  rintro _ w3 ⟨rfl, E1⟩
  refine ⟨_, rfl, ?_⟩
  replace H := H.grow E1
  replace R0 := H.ext
  refine LW.pure rfl rfl (RV.assign rfl) ?_
  refine LW.nil (hK3 _ _ ?_)
  refine CW.seq fun K4 hK4 => ?_
  refine CW.region ?_
  refine LW.pure rfl rfl (RV.move rfl) ?_
  refine LW.pure rfl rfl (RV.nei rfl rfl) ?_
  refine LW.nil (hK4 _ _ ?_)
  by_cases hp1 : r1 = 0
  ·
    replace F := ite_y hp1 F
    have hq1 := dec_t hp1
    refine CW.condF rfl (not_f hq1) ?_
    refine CW.skip (hK2 _ _ ?_)
    refine CW.seq fun K5 hK5 => ?_
    obtain ⟨x1, hbx1, hx1, F⟩ := ix_some F
    refine CW.region ?_
    refine LW.pure rfl rfl (RV.fieldAddr Tf24_1 rfl) ?_
    refine LW.pure rfl rfl (RV.load1 Tk22 rfl ((H.blk 1 rfl).cells.off 1) rfl) ?_
    refine LW.pure rfl rfl (RV.move rfl) ?_
    refine LW.pure rfl rfl (RV.indexAddr Ts22 rfl rfl hbx1 (h_a0_readings.addr_ hx1)) ?_
    refine LW.pure rfl rfl (RV.loadA [.int .i64 x1.from_, .int .i64 x1.to_, .int .i64 x1.rise, .int .i64 x1.weight] Tk46 rfl ((h_a0_readings.at_ hx1).ext R0) rfl rfl) ?_
    refine LW.go rfl rfl (OW.alloc Tz46 fun b3 w4 N3 => ?_)
    replace H := H.new N3 N3.blk
    replace R0 := H.ext
    refine LW.go rfl rfl (OW.store Tk46 rfl rfl (H.blk 0 rfl) (off := 0) (vs := [.int .i64 x1.from_, .int .i64 x1.to_, .int .i64 x1.rise, .int .i64 x1.weight]) rfl rfl rfl rfl rfl fun w5 S1 => ?_)
    replace H : Hp w w5 [.blk b3 46 [.int .i64 x1.from_, .int .i64 x1.to_, .int .i64 x1.rise, .int .i64 x1.weight], .blk b2 28 [.int .i64 0, .int .i64 0], .blk b1 24 [.int .i64 a0.points, .slice A_a0_readings a0.readings.length c_a0_readings]] := H.stored 0 rfl S1
    replace R0 := H.ext
    refine LW.nil (hK5 _ _ ?_)
    refine CW.seq fun K6 hK6 => ?_
    obtain ⟨r2, hr2, F⟩ := bnd_some F
    refine CW.region ?_
    refine LW.pure rfl rfl (RV.loadA [.int .i64 a0.points, .slice A_a0_readings a0.readings.length c_a0_readings] Tk24 rfl (H.blk 2 rfl).cells rfl rfl) ?_
    refine LW.pure rfl rfl (RV.fieldAddr Tf46_0 rfl) ?_
    refine LW.pure rfl rfl (RV.load1 Tk3 rfl ((H.blk 0 rfl).cells.off 0) rfl) ?_
    refine LW.pure rfl rfl (RV.fieldAddr Tf46_1 rfl) ?_
    refine LW.pure rfl rfl (RV.load1 Tk3 rfl ((H.blk 0 rfl).cells.off 1) rfl) ?_
    refine LW.go rfl rfl (OW.call Tc65 rfl (ref01_resistance_ok (a0 := a0) (a1 := x1.from_) (a2 := x1.to_) (h_a0_readings.ext R0) hr2) ?_)
    rintro _ w6 ⟨rfl, E2⟩
    refine ⟨_, rfl, ?_⟩
    replace H := H.grow E2
    replace R0 := H.ext
    refine LW.go rfl rfl (OW.alloc Tz28 fun b4 w7 N4 => ?_)
    replace H := H.new N4 N4.blk
    replace R0 := H.ext
    refine LW.go rfl rfl (OW.store Tk28 rfl rfl (H.blk 0 rfl) (off := 0) (vs := [.int .i64 r2.num, .int .i64 r2.den]) rfl rfl rfl rfl rfl fun w8 S2 => ?_)
    replace H : Hp w w8 [.blk b4 28 [.int .i64 r2.num, .int .i64 r2.den], .blk b3 46 [.int .i64 x1.from_, .int .i64 x1.to_, .int .i64 x1.rise, .int .i64 x1.weight], .blk b2 28 [.int .i64 0, .int .i64 0], .blk b1 24 [.int .i64 a0.points, .slice A_a0_readings a0.readings.length c_a0_readings]] := H.stored 0 rfl S2
    replace R0 := H.ext
    refine LW.nil (hK6 _ _ ?_)
    refine CW.seq fun K7 hK7 => ?_
    obtain ⟨hg1, F⟩ := gd_some F
    obtain ⟨r3, hr3, F⟩ := bnd_some F
    refine CW.region ?_
    refine LW.pure rfl rfl (RV.fieldAddr Tf46_3 rfl) ?_
    refine LW.pure rfl rfl (RV.load1 Tk3 rfl ((H.blk 1 rfl).cells.off 3) rfl) ?_
    refine LW.pure rfl rfl (RV.fieldAddr Tf28_0 rfl) ?_
    refine LW.pure rfl rfl (RV.load1 Tk3 rfl ((H.blk 0 rfl).cells.off 0) rfl) ?_
    refine LW.pure rfl rfl (RV.mul rfl rfl hg1) ?_
    refine LW.pure rfl rfl (RV.fieldAddr Tf28_1 rfl) ?_
    refine LW.pure rfl rfl (RV.load1 Tk3 rfl ((H.blk 0 rfl).cells.off 1) rfl) ?_
    refine LW.go rfl rfl (OW.call Tc33 rfl (ref01_Ratio_ok (a0 := x1.weight * r2.num) (a1 := r2.den) hr3) ?_)
    rintro _ w9 ⟨rfl, E3⟩
    refine ⟨_, rfl, ?_⟩
    replace H := H.grow E3
    replace R0 := H.ext
    refine LW.go rfl rfl (OW.store Tk28 rfl rfl (H.blk 2 rfl) (off := 0) (vs := [.int .i64 r3.num, .int .i64 r3.den]) rfl rfl rfl rfl rfl fun w10 S3 => ?_)
    replace H : Hp w w10 [.blk b4 28 [.int .i64 r2.num, .int .i64 r2.den], .blk b3 46 [.int .i64 x1.from_, .int .i64 x1.to_, .int .i64 x1.rise, .int .i64 x1.weight], .blk b2 28 [.int .i64 r3.num, .int .i64 r3.den], .blk b1 24 [.int .i64 a0.points, .slice A_a0_readings a0.readings.length c_a0_readings]] := H.stored 2 rfl S3
    replace R0 := H.ext
    refine LW.pure rfl rfl (RV.assign rfl) ?_
    refine LW.nil (hK7 _ _ ?_)
    refine CW.ret ?_
    obtain rfl := Option.some.inj F
    refine ⟨_, (ResOK.two ⟨_, rfl, run_loadVar_agg Tk28 (H.blk 2 rfl).cells (us := [.int .i64 r3.num, .int .i64 r3.den]) rfl rfl⟩ rfl), ?_⟩
    refine ⟨(by first | rfl | simp), R0⟩
  ·
    replace F := ite_n hp1 F
    have hq1 := dec_f hp1
    refine CW.condT rfl (not_t hq1) ?_
    refine CW.seq fun K8 hK8 => ?_
    refine CW.region ?_
    refine LW.pure rfl rfl (RV.build (vs := []) (cs := [.int .i64 0, .int .i64 0]) rfl (fun _ => by kernel_rfl)) ?_
    refine LW.pure rfl rfl (RV.move rfl) ?_
    refine LW.go rfl rfl (OW.store Tk28 rfl rfl (H.blk 0 rfl) (off := 0) (vs := [.int .i64 0, .int .i64 0]) rfl rfl rfl rfl rfl fun w11 S4 => ?_)
    replace H : Hp w w11 [.blk b2 28 [.int .i64 0, .int .i64 0], .blk b1 24 [.int .i64 a0.points, .slice A_a0_readings a0.readings.length c_a0_readings]] := H.stored 0 rfl S4
    replace R0 := H.ext
    refine LW.pure rfl rfl (RV.assign rfl) ?_
    refine LW.nil (hK8 _ _ ?_)
    refine CW.ret ?_
    obtain rfl := Option.some.inj F
    refine ⟨_, (ResOK.two ⟨_, rfl, run_loadVar_agg Tk28 (H.blk 0 rfl).cells (us := [.int .i64 0, .int .i64 0]) rfl rfl⟩ rfl), ?_⟩
    refine ⟨(by first | rfl | simp), R0⟩
set_option maxRecDepth 20000 in
theorem slices_Delete_Reading_core {l : List Reading} {A : Option Addr} {c i j : Nat} {w : World} (o : Own w A c 46 4 (l.map encReading)) (hij : i ≤ j) (hj : j ≤ l.length) : Calls Try.prog 107 #[.slice A l.length c, .int .i64 (i : Int), .int .i64 (j : Int)] w (fun e w' => e = .returned (.slice A (l.take i ++ l.drop j).length c) ∧ Own w' A c 46 4 ((l.take i ++ l.drop j).map encReading) ∧ Mod w w' A) := by
  have hc : l.length ≤ c := o.sl.le
  refine calls_of_cw (args := [.slice A l.length c, .int .i64 (i : Int), .int .i64 (j : Int)]) Try.func107 rfl rfl rfl rfl ?_
  refine CW.seq fun K1 hK1 => ?_
  refine CW.region ?_
  refine LW.pure rfl rfl (RV.assign rfl) ?_
  refine LW.nil (hK1 _ _ ?_)
  refine CW.seq fun K2 hK2 => ?_
  refine CW.region ?_
  refine LW.pure rfl rfl (RV.move rfl) ?_
  refine LW.pure rfl rfl (RV.move rfl) ?_
  refine LW.pure rfl rfl (RV.move rfl) ?_
  refine LW.pure rfl rfl (RV.move rfl) ?_
  refine LW.pure rfl rfl (RV.len Ts22 rfl) ?_
  refine LW.pure rfl rfl (RV.sliceLHM Ts22 rfl rfl rfl rfl ⟨by omega, by omega, by omega, by omega⟩) ?_
  refine LW.nil (hK2 _ _ ?_)
  refine CW.seq fun K3 hK3 => ?_
  refine CW.seq fun K4 hK4 => ?_
  refine CW.region ?_
  refine LW.pure rfl rfl (RV.move rfl) ?_
  refine LW.pure rfl rfl (RV.move rfl) ?_
  refine LW.pure rfl rfl (RV.eqi rfl rfl) ?_
  refine LW.nil (hK4 _ _ ?_)
  by_cases he : (i : Int) = (j : Int)
  · refine CW.condT rfl (dec_t he) ?_
    refine CW.seq fun K5 hK5 => ?_
    refine CW.region ?_
    refine LW.pure rfl rfl (RV.move rfl) ?_
    refine LW.pure rfl rfl (RV.assign rfl) ?_
    refine LW.nil (hK5 _ _ ?_)
    refine CW.ret ?_
    obtain rfl : i = j := by omega
    have e1 : l.take i ++ l.drop i = l := List.take_append_drop i l
    refine ⟨_, (ResOK.one rfl), ?_⟩
    rw [e1]
    exact ⟨rfl, o, Mod.refl _ _⟩
  · refine CW.condF rfl (dec_f he) ?_
    refine CW.skip (hK3 _ _ ?_)
    obtain ⟨b, rfl⟩ := o.at0 (by omega)
    refine CW.seq fun K6 hK6 => ?_
    refine CW.region ?_
    refine LW.pure rfl rfl (RV.move rfl) ?_
    refine LW.pure rfl rfl (RV.len Ts22 rfl) ?_
    refine LW.pure rfl rfl (RV.assign rfl) ?_
    refine LW.nil (hK6 _ _ ?_)
    refine CW.seq fun K7 hK7 => ?_
    have hl1 : (l.drop j).length = l.length - j := by simp
    have hl2 : (l.take i).length = i := by simp; omega
    have hAj : ∃ a, cutA (some (⟨b, 0, none⟩ : Addr)) c 4 j = some a := by unfold cutA; split <;> exact ⟨_, rfl⟩
    refine CW.draw [6] (fun _ => True) (.cons 0 2 (.cons 1 2 (.cons 2 1 (.cons 3 2 (.cons 4 2 (.cons 5 1 (.cons 6 0 (.cons 7 2 .nil)))))))) mixed (by kernel_rfl) fun w2 E => ?_
    have o2 := o.ext E
    refine DW.thru rfl rfl rfl (fun _ EQ => RV.move rfl) ?_
    refine DW.thru rfl rfl rfl (fun _ EQ => RV.move rfl) ?_
    refine DW.fix rfl rfl rfl (fun _ EQ => RV.sliceHi Ts22 rfl rfl ⟨by omega, by omega⟩) ?_
    refine DW.thru rfl rfl rfl (fun _ EQ => RV.move rfl) ?_
    refine DW.thru rfl rfl rfl (fun _ EQ => RV.move rfl) ?_
    refine DW.fix rfl rfl rfl (fun _ EQ => RV.sliceLo Ts22 rfl rfl ⟨Int.natCast_nonneg _, by omega⟩ hc) ?_
    have src := o2.sl.cut j l.length hj (Nat.le_refl _)
    rw [List.take_length] at src
    refine DW.sole rfl rfl rfl (OW.appendOver (l := l.take i) (xs := l.drop j) (zs := l.drop i) Ts22 rfl (by simp; omega) rfl (by rw [hl1]; simp) (by rw [List.take_append_drop]; exact o2) hAj src (fun _ => rfl) (fun _ => rfl) (by decide) (by simp; omega) fun w3 o3 M3 => ?_)
    refine ⟨fun h => absurd h (by decide), M3.modx (fun _ _ => trivial), ?_⟩
    refine DW.thru rfl rfl rfl (fun _ EQ => RV.assign rfl) ?_
    refine DW.nil (hK7 _ _ ?_)
    have hn : (l.take i ++ l.drop j).length = i + (l.length - j) := by rw [List.length_append, hl1, hl2]
    have hd : (List.drop (l.drop j).length (l.drop i)) = l.drop (i + (l.length - j)) := by rw [List.drop_drop, hl1]
    rw [hd] at o3
    refine CW.seq fun K8 hK8 => ?_
    refine CW.region ?_
    refine LW.pure rfl rfl (RV.move rfl) ?_
    refine LW.pure rfl rfl (RV.move rfl) ?_
    refine LW.pure rfl rfl (RV.len Ts22 rfl) ?_
    refine LW.pure rfl rfl (RV.move rfl) ?_
    refine LW.pure rfl rfl (RV.sliceLH Ts22 rfl rfl rfl ⟨by omega, by omega, by omega⟩) ?_
    have hlen : (l.take i ++ l.drop j ++ l.drop (i + (l.length - j))).length = l.length := by simp; omega
    refine LW.go rfl rfl (OW.clearSub (lo := i + (l.length - j)) (hi := l.length) ((⟨0, 0, 0, 0⟩ : Reading) : Reading) Ts22 rfl o3 (fun _ => rfl) rfl rfl (by decide) (by simp only [hn, Int.toNat_natCast]) (by simp only [hn, Int.toNat_natCast]) (by omega) (by rw [hlen]; exact Nat.le_refl _) rfl fun v w4 M4 o4 => ?_)
    refine LW.nil (hK8 _ _ ?_)
    have htk : List.take (i + (l.length - j)) (l.take i ++ l.drop j ++ l.drop (i + (l.length - j))) = l.take i ++ l.drop j := by rw [← hn, List.take_left]
    rw [htk, List.append_assoc, List.map_append] at o4
    have o5 := o4.shrink (by simp)
    refine CW.seq fun K9 hK9 => ?_
    refine CW.region ?_
    refine LW.pure rfl rfl (RV.move rfl) ?_
    refine LW.pure rfl rfl (RV.assign rfl) ?_
    refine LW.nil (hK9 _ _ ?_)
    refine CW.ret ?_
    exact ⟨_, (ResOK.one rfl), rfl, o5, (Mod.of_ext E).trans (M3.trans M4)⟩
set_option maxRecDepth 20000 in
theorem slices_Delete_Reading_ok {a0 : List Reading} {a1 : Int} {a2 : Int} {A_a0 : Option Addr} {c_a0 : Nat} {wb : World} {R : List Ck} {w : World} {res : List Reading} (H : Hp wb w ([.own A_a0 c_a0 46 4 (List.map encReading a0)] ++ R)) (F : slices_Delete_Reading a0 a1 a2 = some res) : Calls Try.prog 107 #[.slice A_a0 a0.length c_a0, .int .i64 a1, .int .i64 a2] w (fun e w' => e = .returned (.slice A_a0 res.length c_a0) ∧ Hp wb w' ([.own A_a0 c_a0 46 4 (List.map encReading res)] ++ R)) := by
  unfold slices_Delete_Reading at F
  obtain ⟨hg, F⟩ := gd_some F
  cases F
  obtain ⟨i, rfl⟩ : ∃ i : Nat, a1 = (i : Int) := ⟨Int.toNat a1, by omega⟩
  obtain ⟨j, rfl⟩ : ∃ j : Nat, a2 = (j : Int) := ⟨Int.toNat a2, by omega⟩
  rw [Int.toNat_natCast, Int.toNat_natCast]
  refine (slices_Delete_Reading_core (H.own 0 rfl) (i := i) (j := j) (by omega) (by omega)).mono ?_
  rintro _ w' ⟨rfl, o, M⟩
  exact ⟨rfl, H.mod 0 rfl M o (.inl rfl)⟩
set_option maxRecDepth 20000 in
set_option maxHeartbeats 1000000 in
theorem level_without_ok {a0 : Survey} {a1 : Int} {A_a0_readings : Option Addr} {c_a0_readings : Nat} {w : World} {res : Survey} (h_a0_readings : Sl w A_a0_readings c_a0_readings 4 (a0.readings.map encReading)) (F : level_without a0 a1 = some res) : Calls Try.prog 85 #[.agg #[.int .i64 a0.points, .slice A_a0_readings a0.readings.length c_a0_readings], .int .i64 a1] w (fun e w' => ∃ (A0_readings : Option Addr) (c0_readings : Nat), e = .returned (.agg #[.int .i64 res.points, .slice A0_readings res.readings.length c0_readings]) ∧ Hp w w' [.own A0_readings c0_readings 46 4 (List.map encReading res.readings)]) := by
  refine calls_of_cw (args := [.agg #[.int .i64 a0.points, .slice A_a0_readings a0.readings.length c_a0_readings], .int .i64 a1]) Try.func85 rfl rfl rfl rfl ?_
  have H := Hp.start w
  have R0 := H.ext
  unfold level_without at F
  refine CW.seq fun K1 hK1 => ?_
  refine CW.region ?_
  refine LW.go rfl rfl (OW.box rfl fun b1 w1 N1 => ?_)
  replace H := H.new N1 N1.blk
  replace R0 := H.ext
  refine LW.go rfl rfl (OW.alloc Tz24 fun b2 w2 N2 => ?_)
  replace H := H.new N2 N2.blk
  replace R0 := H.ext
  refine LW.nil (hK1 _ _ ?_)
  refine CW.seq fun K2 hK2 => ?_
  obtain ⟨r1, hr1, F⟩ := bnd_some F
  obtain ⟨hg1, F⟩ := gd_some F
  obtain ⟨r2, hr2, F⟩ := bnd_some F
  have H0 := H
  have hz : w2.heap.size ≤ w2.heap.size := Nat.le_refl _
  refine CW.draw [8, 10] (XB w2 [.blk b2 24 [.int .i64 0, .slice none 0 0], .blk b1 24 [.int .i64 a0.points, .slice A_a0_readings a0.readings.length c_a0_readings]] [0]) (.cons 5 1 (.cons 0 2 (.cons 1 2 (.cons 2 2 (.cons 3 2 (.cons 6 2 (.cons 7 1 (.cons 4 0 (.cons 8 0 (.cons 9 2 (.cons 10 0 .nil))))))))))) mixed (by kernel_rfl) fun w3 E1 => ?_
  replace H := H.grow E1
  replace R0 := H.ext
  replace hz := Nat.le_trans hz (Ext.size E1)
  refine DW.fix rfl rfl rfl (fun _ EQ => RV.move rfl) ?_
  refine DW.thru rfl rfl rfl (fun _ EQ => RV.fieldAddr Tf24_0 rfl) ?_
  refine DW.thru rfl rfl rfl (fun _ EQ => RV.load1 Tk3 rfl ((H.thruB 1 rfl EQ (H0.notX [0] 1 rfl (by decide))).cells.off 0) rfl) ?_
  refine DW.thru rfl rfl rfl (fun _ EQ => RV.fieldAddr Tf24_1 rfl) ?_
  refine DW.thru rfl rfl rfl (fun _ EQ => RV.load1 Tk22 rfl ((H.thruB 1 rfl EQ (H0.notX [0] 1 rfl (by decide))).cells.off 1) rfl) ?_
  refine DW.thru rfl rfl rfl (fun _ EQ => RV.move rfl) ?_
  refine DW.fix rfl rfl rfl (fun _ EQ => RV.add rfl rfl hg1) ?_
  refine DW.sole rfl rfl rfl (OW.call Tc70 rfl (slices_Clone_Reading_ok (a0 := a0.readings) (h_a0_readings.ext R0) hr1) ?_)
  rintro _ w4 ⟨A7_0, c7_0, rfl, E2⟩
  refine ⟨_, rfl, fun _ => E2.ext, ModX.ext E2.ext, ?_⟩
  have G0_A7_0 : Fresh w2 A7_0 := fun a ha => Nat.le_trans hz (E2.fresh 0 _ rfl a.block (mem_adB.2 ⟨a, ha, rfl⟩))
  replace H : Hp w w4 [.own A7_0 c7_0 46 4 (List.map encReading r1), .blk b2 24 [.int .i64 0, .slice none 0 0], .blk b1 24 [.int .i64 a0.points, .slice A_a0_readings a0.readings.length c_a0_readings]] := H.append E2
  replace R0 := H.ext
  replace hz := Nat.le_trans hz (Ext.size E2.ext)
  replace H := H.pick (L' := [.own A7_0 c7_0 46 4 (List.map encReading r1), .blk b2 24 [.int .i64 0, .slice none 0 0], .blk b1 24 [.int .i64 a0.points, .slice A_a0_readings a0.readings.length c_a0_readings]]) [0, 1, 2] (by decide) rfl
  replace R0 := H.ext
  obtain ⟨Ex1, HE1, Hz1⟩ := Hp.freeze (a := .own A7_0 c7_0 46 4 (List.map encReading r1)) (L := [.blk b2 24 [.int .i64 0, .slice none 0 0], .blk b1 24 [.int .i64 a0.points, .slice A_a0_readings a0.readings.length c_a0_readings]]) H
  refine DW.sole rfl rfl rfl (OW.call Tc107 rfl (slices_Delete_Reading_ok (a0 := r1) (a1 := a1) (a2 := a1 + 1) (R := Ex1) HE1 hr2) ?_)
  rintro _ w5 ⟨rfl, Hq1⟩
  obtain ⟨Hq1, hz1s, hz1k⟩ := Hz1 w5 (.own A7_0 c7_0 46 4 (List.map encReading r2)) [] rfl Hq1
  refine ⟨_, rfl, fun h => absurd h (by decide), ModX.frz hz1s hz1k (XB.newA G0_A7_0), ?_⟩
  replace H : Hp w w5 [.own A7_0 c7_0 46 4 (List.map encReading r2), .blk b2 24 [.int .i64 0, .slice none 0 0], .blk b1 24 [.int .i64 a0.points, .slice A_a0_readings a0.readings.length c_a0_readings]] := Hq1
  replace R0 := H.ext
  replace hz := Nat.le_trans hz hz1s
  refine DW.thru rfl rfl rfl (fun _ EQ => RV.build (vs := [.int .i64 a0.points, .slice A7_0 r2.length c7_0]) (cs := [.int .i64 a0.points, .slice A7_0 r2.length c7_0]) rfl (fun _ => by kernel_rfl)) ?_
  refine DW.sole rfl rfl rfl (OW.store Tk24 rfl rfl (H.blk 1 rfl) (off := 0) (vs := [.int .i64 a0.points, .slice A7_0 r2.length c7_0]) rfl rfl rfl rfl rfl fun w6 S1 => ?_)
  refine ⟨fun h => absurd h (by decide), S1.modx (XB.in_ 0 (by decide) rfl (List.mem_singleton.2 rfl)), ?_⟩
  replace H : Hp w w6 [.own A7_0 c7_0 46 4 (List.map encReading r2), .blk b2 24 [.int .i64 a0.points, .slice A7_0 r2.length c7_0], .blk b1 24 [.int .i64 a0.points, .slice A_a0_readings a0.readings.length c_a0_readings]] := H.stored 1 rfl S1
  replace R0 := H.ext
  replace hz := Nat.le_trans hz (Nat.le_of_eq S1.size.symm)
  refine DW.nil (hK2 _ _ ?_)
  refine CW.ret ?_
  obtain rfl := Option.some.inj F
  refine ⟨_, (ResOK.cell1 ⟨_, rfl, run_loadVar_agg Tk24 (H.blk 1 rfl).cells (us := [.int .i64 a0.points, .slice A7_0 r2.length c7_0]) rfl rfl⟩), ?_⟩
  replace H := H.pick (L' := [.own A7_0 c7_0 46 4 (List.map encReading r2)]) [0] (by decide) rfl
  replace R0 := H.ext
  exact ⟨A7_0, c7_0, (by first | rfl | (simp; done) | (simp; omega)), H⟩
set_option maxRecDepth 20000 in
set_option maxHeartbeats 1000000 in
theorem level_IsBridge_ok {a0 : Survey} {a1 : Int} {A_a0_readings : Option Addr} {c_a0_readings : Nat} {w : World} {res : Bool × Int} (h_a0_readings : Sl w A_a0_readings c_a0_readings 4 (a0.readings.map encReading)) (F : level_IsBridge a0 a1 = some res) : Calls Try.prog 44 #[.agg #[.int .i64 a0.points, .slice A_a0_readings a0.readings.length c_a0_readings], .int .i64 a1] w (Rt w (.tuple #[.bool res.1, .int .i64 res.2])) := by
  refine calls_of_cw (args := [.agg #[.int .i64 a0.points, .slice A_a0_readings a0.readings.length c_a0_readings], .int .i64 a1]) Try.func44 rfl rfl rfl rfl ?_
  have H := Hp.start w
  have R0 := H.ext
  unfold level_IsBridge at F
  refine CW.seq fun K1 hK1 => ?_
  refine CW.region ?_
  refine LW.go rfl rfl (OW.box rfl fun b1 w1 N1 => ?_)
  replace H := H.new N1 N1.blk
  replace R0 := H.ext
  refine LW.pure rfl rfl (RV.assign rfl) ?_
  refine LW.pure rfl rfl (RV.assign rfl) ?_
  refine LW.nil (hK1 _ _ ?_)
  refine CW.seq fun K2 hK2 => ?_
  refine CW.seq fun K3 hK3 => ?_
  obtain ⟨r1, hr1, F⟩ := bnd_some F
  refine CW.region ?_
  refine LW.pure rfl rfl (RV.loadA [.int .i64 a0.points, .slice A_a0_readings a0.readings.length c_a0_readings] Tk24 rfl (H.blk 0 rfl).cells rfl rfl) ?_
  refine LW.pure rfl rfl (RV.move rfl) ?_
  refine LW.go rfl rfl (OW.call Tc72 rfl (level_reading_ok (a0 := a0) (a1 := a1) (h_a0_readings.ext R0) hr1) ?_)
  rintro _ w2 ⟨rfl, E1⟩
  refine ⟨_, rfl, ?_⟩
  replace H := H.grow E1
  replace R0 := H.ext
  refine LW.pure rfl rfl (RV.assign rfl) ?_
  refine LW.nil (hK3 _ _ ?_)
  refine CW.seq fun K4 hK4 => ?_
  refine CW.region ?_
  refine LW.pure rfl rfl (RV.move rfl) ?_
  refine LW.pure rfl rfl (RV.nei rfl rfl) ?_
  refine LW.nil (hK4 _ _ ?_)
  by_cases hp1 : r1 = 0
  ·
    replace F := ite_y hp1 F
    have hq1 := dec_t hp1
    refine CW.condF rfl (not_f hq1) ?_
    refine CW.skip (hK2 _ _ ?_)
    refine CW.seq fun K5 hK5 => ?_
    obtain ⟨r2, hr2, F⟩ := bnd_some F
    obtain ⟨r3, hr3, F⟩ := bnd_some F
    obtain ⟨r4, hr4, F⟩ := bnd_some F
    refine CW.draw [] (fun _ => True) (.cons 0 1 (.cons 1 1 (.cons 5 1 (.cons 2 0 (.cons 3 0 (.cons 4 1 (.cons 6 0 (.cons 7 1 (.cons 8 1 (.cons 9 1 (.cons 10 1 .nil))))))))))) mixed (by kernel_rfl) fun w3 E2 => ?_
    replace H := H.grow E2
    replace R0 := H.ext
    refine DW.fix rfl rfl rfl (fun _ EQ => RV.loadA [.int .i64 a0.points, .slice A_a0_readings a0.readings.length c_a0_readings] Tk24 rfl ((H.grow EQ).blk 0 rfl).cells rfl rfl) ?_
    refine DW.fix rfl rfl rfl (fun _ EQ => RV.move rfl) ?_
    refine DW.fix rfl rfl rfl (fun _ EQ => RV.loadA [.int .i64 a0.points, .slice A_a0_readings a0.readings.length c_a0_readings] Tk24 rfl ((H.grow EQ).blk 0 rfl).cells rfl rfl) ?_
    refine DW.sole rfl rfl rfl (OW.call Tc85 rfl (level_without_ok (a0 := a0) (a1 := a1) (h_a0_readings.ext R0) hr2) ?_)
    rintro _ w4 ⟨A10_0_readings, c10_0_readings, rfl, E3⟩
    refine ⟨_, rfl, fun _ => E3.ext, ModX.ext E3.ext, ?_⟩
    replace H : Hp w w4 [.own A10_0_readings c10_0_readings 46 4 (List.map encReading r2.readings), .blk b1 24 [.int .i64 a0.points, .slice A_a0_readings a0.readings.length c_a0_readings]] := H.append E3
    replace R0 := H.ext
    refine DW.sole rfl rfl rfl (OW.call Tc66 rfl (level_parts_ok (a0 := r2) (H.own 0 rfl).sl hr3) ?_)
    rintro _ w5 ⟨A11_0, c11_0, hs11_0, rfl, E4⟩
    refine ⟨_, rfl, fun _ => E4.ext, ModX.ext E4.ext, ?_⟩
    replace H : Hp w w5 [.tab A11_0 c11_0 39 hs11_0 3 1 (encM encN r3), .own A10_0_readings c10_0_readings 46 4 (List.map encReading r2.readings), .blk b1 24 [.int .i64 a0.points, .slice A_a0_readings a0.readings.length c_a0_readings]] := H.append E4
    replace R0 := H.ext
    refine DW.fix rfl rfl rfl (fun _ EQ => RV.len Ts36 rfl) ?_
    refine DW.sole rfl rfl rfl (OW.call Tc66 rfl (level_parts_ok (a0 := a0) (h_a0_readings.ext R0) hr4) ?_)
    rintro _ w6 ⟨A12_0, c12_0, hs12_0, rfl, E5⟩
    refine ⟨_, rfl, fun _ => E5.ext, ModX.ext E5.ext, ?_⟩
    replace H : Hp w w6 [.tab A12_0 c12_0 39 hs12_0 3 1 (encM encN r4), .tab A11_0 c11_0 39 hs11_0 3 1 (encM encN r3), .own A10_0_readings c10_0_readings 46 4 (List.map encReading r2.readings), .blk b1 24 [.int .i64 a0.points, .slice A_a0_readings a0.readings.length c_a0_readings]] := H.append E5
    replace R0 := H.ext
    refine DW.fix rfl rfl rfl (fun _ EQ => RV.len Ts36 rfl) ?_
    refine DW.fix rfl rfl rfl (fun _ EQ => RV.gtr rfl rfl) ?_
    refine DW.fix rfl rfl rfl (fun _ EQ => RV.assign rfl) ?_
    refine DW.fix rfl rfl rfl (fun _ EQ => RV.assign rfl) ?_
    refine DW.nil (hK5 _ _ ?_)
    refine CW.ret ?_
    obtain rfl := Option.some.inj F
    refine ⟨_, (ResOK.two rfl rfl), ?_⟩
    refine ⟨(by first | rfl | simp), R0⟩
  ·
    replace F := ite_n hp1 F
    have hq1 := dec_f hp1
    refine CW.condT rfl (not_t hq1) ?_
    refine CW.seq fun K6 hK6 => ?_
    refine CW.region ?_
    refine LW.pure rfl rfl (RV.move rfl) ?_
    refine LW.pure rfl rfl (RV.assign rfl) ?_
    refine LW.pure rfl rfl (RV.assign rfl) ?_
    refine LW.nil (hK6 _ _ ?_)
    refine CW.ret ?_
    obtain rfl := Option.some.inj F
    refine ⟨_, (ResOK.two rfl rfl), ?_⟩
    refine ⟨(by first | rfl | simp), R0⟩
set_option maxRecDepth 20000 in
set_option maxHeartbeats 1000000 in
theorem ref01_less_ok {a0 : Survey} {a1 : Int} {A_a0_readings : Option Addr} {c_a0_readings : Nat} {w : World} {res : Survey} (h_a0_readings : Sl w A_a0_readings c_a0_readings 4 (a0.readings.map encReading)) (F : ref01_less a0 a1 = some res) : Calls Try.prog 86 #[.agg #[.int .i64 a0.points, .slice A_a0_readings a0.readings.length c_a0_readings], .int .i64 a1] w (fun e w' => ∃ (A0_readings : Option Addr) (c0_readings : Nat), e = .returned (.agg #[.int .i64 res.points, .slice A0_readings res.readings.length c0_readings]) ∧ Hp w w' [.own A0_readings c0_readings 46 4 (List.map encReading res.readings)]) := by
  refine calls_of_cw (args := [.agg #[.int .i64 a0.points, .slice A_a0_readings a0.readings.length c_a0_readings], .int .i64 a1]) Try.func86 rfl rfl rfl rfl ?_
  have H := Hp.start w
  have R0 := H.ext
  unfold ref01_less at F
  refine CW.seq fun K1 hK1 => ?_
  refine CW.region ?_
  refine LW.go rfl rfl (OW.box rfl fun b1 w1 N1 => ?_)
  replace H := H.new N1 N1.blk
  replace R0 := H.ext
  refine LW.go rfl rfl (OW.alloc Tz24 fun b2 w2 N2 => ?_)
  replace H := H.new N2 N2.blk
  replace R0 := H.ext
  refine LW.nil (hK1 _ _ ?_)
  refine CW.seq fun K2 hK2 => ?_
  obtain ⟨hg1, F⟩ := gd_some F
  obtain ⟨hg2, F⟩ := gd_some F
  obtain ⟨hg3, F⟩ := gd_some F
  obtain ⟨hg4, F⟩ := gd_some F
  obtain ⟨hg5, F⟩ := gd_some F
  have H0 := H
  have hz : w2.heap.size ≤ w2.heap.size := Nat.le_refl _
  refine CW.draw [7, 13, 15] (XB w2 [.blk b2 24 [.int .i64 0, .slice none 0 0], .blk b1 24 [.int .i64 a0.points, .slice A_a0_readings a0.readings.length c_a0_readings]] [0]) (.cons 0 2 (.cons 1 2 (.cons 3 2 (.cons 4 2 (.cons 5 2 (.cons 6 2 (.cons 8 2 (.cons 9 2 (.cons 10 2 (.cons 11 2 (.cons 12 2 (.cons 2 0 (.cons 7 0 (.cons 13 0 (.cons 14 2 (.cons 15 0 .nil)))))))))))))))) mixed (by kernel_rfl) fun w3 E1 => ?_
  replace H := H.grow E1
  replace R0 := H.ext
  replace hz := Nat.le_trans hz (Ext.size E1)
  refine DW.thru rfl rfl rfl (fun _ EQ => RV.fieldAddr Tf24_0 rfl) ?_
  refine DW.thru rfl rfl rfl (fun _ EQ => RV.load1 Tk3 rfl ((H.thruB 1 rfl EQ (H0.notX [0] 1 rfl (by decide))).cells.off 0) rfl) ?_
  refine DW.thru rfl rfl rfl (fun _ EQ => RV.fieldAddr Tf24_1 rfl) ?_
  refine DW.thru rfl rfl rfl (fun _ EQ => RV.load1 Tk22 rfl ((H.thruB 1 rfl EQ (H0.notX [0] 1 rfl (by decide))).cells.off 1) rfl) ?_
  refine DW.thru rfl rfl rfl (fun _ EQ => RV.move rfl) ?_
  refine DW.thru rfl rfl rfl (fun _ EQ => RV.cutH (l := a0.readings) Ts22 rfl rfl hg1 (h_a0_readings.ext R0).le rfl) ?_
  refine DW.thru rfl rfl rfl (fun _ EQ => RV.fieldAddr Tf24_1 rfl) ?_
  refine DW.thru rfl rfl rfl (fun _ EQ => RV.load1 Tk22 rfl ((H.thruB 1 rfl EQ (H0.notX [0] 1 rfl (by decide))).cells.off 1) rfl) ?_
  refine DW.thru rfl rfl rfl (fun _ EQ => RV.move rfl) ?_
  refine DW.thru rfl rfl rfl (fun _ EQ => RV.add rfl rfl hg3) ?_
  refine DW.thru rfl rfl rfl (fun _ EQ => RV.cutL (l := a0.readings) Ts22 rfl rfl hg4 (h_a0_readings.ext R0).le rfl) ?_
  refine DW.sole rfl rfl rfl (OW.buildSlice (e := 46) (vs := []) (cs := []) rfl (fun _ => by kernel_rfl) fun b3 w4 N3 => ?_)
  refine ⟨fun _ => N3.ext, ModX.ext N3.ext, ?_⟩
  have G0_b3 : w2.heap.size ≤ b3 := by rw [N3.at_]; exact hz
  replace H := H.made' (k := 4) (t := 46) (enc := encReading) (l := ([] : List Reading)) N3 N3.blk (fun _ => rfl) rfl (by first | decide | omega | (simp; done) | (simp; omega))
  replace R0 := H.ext
  replace hz := Nat.le_trans hz (Ext.size N3.ext)
  refine DW.sole rfl rfl rfl (OW.appendG (enc := encReading) (l := ([] : List Reading)) (xs := (List.take (Int.toNat a1) a0.readings)) Ts22 (look_slice rfl (by first | rfl | (simp; done) | (simp; omega))) rfl (H.own 0 rfl) ((h_a0_readings.ext R0).cutH hg1) (fun _ => rfl) rfl rfl hg2 (by decide) fun A1 c1 w5 O1 M1 D1 => ?_)
  have G0_A1 := Fresh.nextZ (Fresh.at_ G0_b3) D1 hz
  refine ⟨fun h => absurd h (by decide), M1.modx (XB.newA (Fresh.at_ G0_b3)), ?_⟩
  replace H : Hp w w5 [.own A1 c1 46 4 (List.map encReading ((([] : List Reading) ++ (List.take (Int.toNat a1) a0.readings)))), .blk b2 24 [.int .i64 0, .slice none 0 0], .blk b1 24 [.int .i64 a0.points, .slice A_a0_readings a0.readings.length c_a0_readings]] := H.mod 0 rfl M1 O1 D1
  replace R0 := H.ext
  replace hz := Nat.le_trans hz M1.size
  refine DW.sole rfl rfl rfl (OW.appendG (enc := encReading) (l := (([] : List Reading) ++ (List.take (Int.toNat a1) a0.readings))) (xs := (List.drop (Int.toNat (a1 + 1)) a0.readings)) Ts22 rfl rfl (H.own 0 rfl) ((h_a0_readings.ext R0).cutL hg4) (fun _ => rfl) rfl rfl hg5 (by decide) fun A2 c2 w6 O2 M2 D2 => ?_)
  have G0_A2 := Fresh.nextZ G0_A1 D2 hz
  refine ⟨fun h => absurd h (by decide), M2.modx (XB.newA G0_A1), ?_⟩
  replace H : Hp w w6 [.own A2 c2 46 4 (List.map encReading (((([] : List Reading) ++ (List.take (Int.toNat a1) a0.readings)) ++ (List.drop (Int.toNat (a1 + 1)) a0.readings)))), .blk b2 24 [.int .i64 0, .slice none 0 0], .blk b1 24 [.int .i64 a0.points, .slice A_a0_readings a0.readings.length c_a0_readings]] := H.mod 0 rfl M2 O2 D2
  replace R0 := H.ext
  replace hz := Nat.le_trans hz M2.size
  refine DW.thru rfl rfl rfl (fun _ EQ => RV.build (vs := [.int .i64 a0.points, .slice A2 ((((([] : List Reading) ++ (List.take (Int.toNat a1) a0.readings)) ++ (List.drop (Int.toNat (a1 + 1)) a0.readings))).length) c2]) (cs := [.int .i64 a0.points, .slice A2 ((((([] : List Reading) ++ (List.take (Int.toNat a1) a0.readings)) ++ (List.drop (Int.toNat (a1 + 1)) a0.readings))).length) c2]) rfl (fun _ => by kernel_rfl)) ?_
  refine DW.sole rfl rfl rfl (OW.store Tk24 rfl rfl (H.blk 1 rfl) (off := 0) (vs := [.int .i64 a0.points, .slice A2 ((((([] : List Reading) ++ (List.take (Int.toNat a1) a0.readings)) ++ (List.drop (Int.toNat (a1 + 1)) a0.readings))).length) c2]) rfl rfl rfl rfl rfl fun w7 S1 => ?_)
  refine ⟨fun h => absurd h (by decide), S1.modx (XB.in_ 0 (by decide) rfl (List.mem_singleton.2 rfl)), ?_⟩
  replace H : Hp w w7 [.own A2 c2 46 4 (List.map encReading (((([] : List Reading) ++ (List.take (Int.toNat a1) a0.readings)) ++ (List.drop (Int.toNat (a1 + 1)) a0.readings)))), .blk b2 24 [.int .i64 a0.points, .slice A2 ((((([] : List Reading) ++ (List.take (Int.toNat a1) a0.readings)) ++ (List.drop (Int.toNat (a1 + 1)) a0.readings))).length) c2], .blk b1 24 [.int .i64 a0.points, .slice A_a0_readings a0.readings.length c_a0_readings]] := H.stored 1 rfl S1
  replace R0 := H.ext
  replace hz := Nat.le_trans hz (Nat.le_of_eq S1.size.symm)
  refine DW.nil (hK2 _ _ ?_)
  refine CW.ret ?_
  obtain rfl := Option.some.inj F
  refine ⟨_, (ResOK.cell1 ⟨_, rfl, run_loadVar_agg Tk24 (H.blk 1 rfl).cells (us := [.int .i64 a0.points, .slice A2 ((((([] : List Reading) ++ (List.take (Int.toNat a1) a0.readings)) ++ (List.drop (Int.toNat (a1 + 1)) a0.readings))).length) c2]) rfl rfl⟩), ?_⟩
  replace H := H.pick (L' := [.own A2 c2 46 4 (List.map encReading (((([] : List Reading) ++ (List.take (Int.toNat a1) a0.readings)) ++ (List.drop (Int.toNat (a1 + 1)) a0.readings))))]) [0] (by decide) rfl
  replace R0 := H.ext
  exact ⟨A2, c2, (by first | rfl | (simp; done) | (simp; omega)), H⟩
end Go.D1

set_option linter.unusedVariables false
set_option linter.unusedSimpArgs false
namespace Go.D1
open Go.Tb Go.Proofs Go.RowKit
theorem Tc32 : callable Try.prog 32 = true := by kernel_rfl
theorem Tc43 : callable Try.prog 43 = true := by kernel_rfl
theorem Tc44 : callable Try.prog 44 = true := by kernel_rfl
theorem Tc45 : callable Try.prog 45 = true := by kernel_rfl
theorem Tc86 : callable Try.prog 86 = true := by kernel_rfl
set_option maxRecDepth 20000 in
set_option maxHeartbeats 1000000 in
theorem ref01_IsBridge_ok {a0 : Survey} {a1 : Int} {A_a0_readings : Option Addr} {c_a0_readings : Nat} {w : World} {res : Bool × Int} (h_a0_readings : Sl w A_a0_readings c_a0_readings 4 (a0.readings.map encReading)) (F : ref01_IsBridge a0 a1 = some res) : Calls Try.prog 45 #[.agg #[.int .i64 a0.points, .slice A_a0_readings a0.readings.length c_a0_readings], .int .i64 a1] w (Rt w (.tuple #[.bool res.1, .int .i64 res.2])) := by
  refine calls_of_cw (args := [.agg #[.int .i64 a0.points, .slice A_a0_readings a0.readings.length c_a0_readings], .int .i64 a1]) Try.func45 rfl rfl rfl rfl ?_
  have H := Hp.start w
  have R0 := H.ext
  unfold ref01_IsBridge at F
  refine CW.seq fun K1 hK1 => ?_
  refine CW.region ?_
  refine LW.go rfl rfl (OW.box rfl fun b1 w1 N1 => ?_)
  replace H := H.new N1 N1.blk
  replace R0 := H.ext
  refine LW.pure rfl rfl (RV.assign rfl) ?_
  refine LW.pure rfl rfl (RV.assign rfl) ?_
  refine LW.nil (hK1 _ _ ?_)
  refine CW.seq fun K2 hK2 => ?_
  refine CW.seq fun K3 hK3 => ?_
  obtain ⟨r1, hr1, F⟩ := bnd_some F
  refine CW.region ?_
  refine LW.pure rfl rfl (RV.loadA [.int .i64 a0.points, .slice A_a0_readings a0.readings.length c_a0_readings] Tk24 rfl (H.blk 0 rfl).cells rfl rfl) ?_
  refine LW.pure rfl rfl (RV.move rfl) ?_
  refine LW.go rfl rfl (OW.call Tc84 rfl (ref01_numbered_ok (a0 := a0) (a1 := a1) (h_a0_readings.ext R0) hr1) ?_)
  rintro _ w2 ⟨rfl, E1⟩
  refine ⟨_, rfl, ?_⟩
  replace H := H.grow E1
  replace R0 := H.ext
  refine LW.pure rfl rfl (RV.assign rfl) ?_
  refine LW.nil (hK3 _ _ ?_)
  refine CW.seq fun K4 hK4 => ?_
  refine CW.region ?_
  refine LW.pure rfl rfl (RV.move rfl) ?_
  refine LW.pure rfl rfl (RV.nei rfl rfl) ?_
  refine LW.nil (hK4 _ _ ?_)
  by_cases hp1 : r1 = 0
  ·
    replace F := ite_y hp1 F
    have hq1 := dec_t hp1
    refine CW.condF rfl (not_f hq1) ?_
    refine CW.skip (hK2 _ _ ?_)
    refine CW.seq fun K5 hK5 => ?_
    obtain ⟨r2, hr2, F⟩ := bnd_some F
    obtain ⟨r3, hr3, F⟩ := bnd_some F
    refine CW.region ?_
    refine LW.pure rfl rfl (RV.loadA [.int .i64 a0.points, .slice A_a0_readings a0.readings.length c_a0_readings] Tk24 rfl (H.blk 0 rfl).cells rfl rfl) ?_
    refine LW.pure rfl rfl (RV.move rfl) ?_
    refine LW.go rfl rfl (OW.call Tc86 rfl (ref01_less_ok (a0 := a0) (a1 := a1) (h_a0_readings.ext R0) hr2) ?_)
    rintro _ w3 ⟨A8_0_readings, c8_0_readings, rfl, E2⟩
    refine ⟨_, rfl, ?_⟩
    replace H : Hp w w3 [.own A8_0_readings c8_0_readings 46 4 (List.map encReading r2.readings), .blk b1 24 [.int .i64 a0.points, .slice A_a0_readings a0.readings.length c_a0_readings]] := H.append E2
    replace R0 := H.ext
    refine LW.go rfl rfl (OW.call Tc67 rfl (ref01_whole_ok (a0 := r2) (H.own 0 rfl).sl hr3) ?_)
    rintro _ w4 ⟨A9_0, c9_0, rfl, E3⟩
    refine ⟨_, rfl, ?_⟩
    replace H : Hp w w4 [.own A9_0 c9_0 3 1 (List.map encN r3), .own A8_0_readings c8_0_readings 46 4 (List.map encReading r2.readings), .blk b1 24 [.int .i64 a0.points, .slice A_a0_readings a0.readings.length c_a0_readings]] := H.append E3
    replace R0 := H.ext
    refine LW.pure rfl rfl (RV.assign rfl) ?_
    refine LW.nil (hK5 _ _ ?_)
    refine CW.seq fun K6 hK6 => ?_
    obtain ⟨x1, hbx1, hx1, F⟩ := ix_some F
    obtain ⟨x2, hbx2, hx2, F⟩ := ix_some F
    obtain ⟨x3, hbx3, hx3, F⟩ := ix_some F
    obtain ⟨x4, hbx4, hx4, F⟩ := ix_some F
    refine CW.draw [] (fun _ => True) (.cons 0 1 (.cons 1 1 (.cons 2 1 (.cons 3 1 (.cons 4 1 (.cons 5 1 (.cons 6 1 (.cons 7 1 (.cons 8 1 (.cons 9 1 (.cons 10 1 (.cons 11 1 (.cons 12 1 (.cons 13 1 (.cons 14 1 (.cons 15 1 (.cons 16 1 (.cons 17 1 (.cons 18 1 (.cons 19 1 (.cons 20 1 .nil))))))))))))))))))))) mixed (by kernel_rfl) fun w5 E4 => ?_
    replace H := H.grow E4
    replace R0 := H.ext
    refine DW.fix rfl rfl rfl (fun _ EQ => RV.move rfl) ?_
    refine DW.fix rfl rfl rfl (fun _ EQ => RV.fieldAddr Tf24_1 rfl) ?_
    refine DW.fix rfl rfl rfl (fun _ EQ => RV.load1 Tk22 rfl (((H.grow EQ).blk 2 rfl).cells.off 1) rfl) ?_
    refine DW.fix rfl rfl rfl (fun _ EQ => RV.move rfl) ?_
    refine DW.fix rfl rfl rfl (fun _ EQ => RV.indexAddr Ts22 rfl rfl hbx1 (h_a0_readings.addr_ hx1)) ?_
    refine DW.fix rfl rfl rfl (fun _ EQ => RV.fieldAddr Tf46_0 rfl) ?_
    refine DW.fix rfl rfl rfl (fun _ EQ => RV.load1 Tk3 rfl (((h_a0_readings.at_ hx1).ext (R0.trans EQ)).off 0) rfl) ?_
    refine DW.fix rfl rfl rfl (fun _ EQ => RV.indexAddr Ts39 rfl rfl hbx2 ((H.own 0 rfl).sl.addr_ hx2)) ?_
    refine DW.fix rfl rfl rfl (fun _ EQ => RV.load1 Tk3 rfl (((H.grow EQ).own 0 rfl).sl.at_ hx2) rfl) ?_
    refine DW.fix rfl rfl rfl (fun _ EQ => RV.move rfl) ?_
    refine DW.fix rfl rfl rfl (fun _ EQ => RV.fieldAddr Tf24_1 rfl) ?_
    refine DW.fix rfl rfl rfl (fun _ EQ => RV.load1 Tk22 rfl (((H.grow EQ).blk 2 rfl).cells.off 1) rfl) ?_
    refine DW.fix rfl rfl rfl (fun _ EQ => RV.move rfl) ?_
    refine DW.fix rfl rfl rfl (fun _ EQ => RV.indexAddr Ts22 rfl rfl hbx3 (h_a0_readings.addr_ hx3)) ?_
    refine DW.fix rfl rfl rfl (fun _ EQ => RV.fieldAddr Tf46_1 rfl) ?_
    refine DW.fix rfl rfl rfl (fun _ EQ => RV.load1 Tk3 rfl (((h_a0_readings.at_ hx3).ext (R0.trans EQ)).off 1) rfl) ?_
    refine DW.fix rfl rfl rfl (fun _ EQ => RV.indexAddr Ts39 rfl rfl hbx4 ((H.own 0 rfl).sl.addr_ hx4)) ?_
    refine DW.fix rfl rfl rfl (fun _ EQ => RV.load1 Tk3 rfl (((H.grow EQ).own 0 rfl).sl.at_ hx4) rfl) ?_
    refine DW.fix rfl rfl rfl (fun _ EQ => RV.nei rfl rfl) ?_
    refine DW.fix rfl rfl rfl (fun _ EQ => RV.assign rfl) ?_
    refine DW.fix rfl rfl rfl (fun _ EQ => RV.assign rfl) ?_
    refine DW.nil (hK6 _ _ ?_)
    refine CW.ret ?_
    obtain rfl := Option.some.inj F
    refine ⟨_, (ResOK.two rfl rfl), ?_⟩
    refine ⟨(by first | rfl | simp), R0⟩
  ·
    replace F := ite_n hp1 F
    have hq1 := dec_f hp1
    refine CW.condT rfl (not_t hq1) ?_
    refine CW.seq fun K7 hK7 => ?_
    refine CW.region ?_
    refine LW.pure rfl rfl (RV.move rfl) ?_
    refine LW.pure rfl rfl (RV.assign rfl) ?_
    refine LW.pure rfl rfl (RV.assign rfl) ?_
    refine LW.nil (hK7 _ _ ?_)
    refine CW.ret ?_
    obtain rfl := Option.some.inj F
    refine ⟨_, (ResOK.two rfl rfl), ?_⟩
    refine ⟨(by first | rfl | simp), R0⟩
set_option maxRecDepth 20000 in
set_option maxHeartbeats 1000000 in
theorem law01_LevelShares_ok {a0 : Survey} {a1 : Int} {A_a0_readings : Option Addr} {c_a0_readings : Nat} {w : World} {res : Bool} (h_a0_readings : Sl w A_a0_readings c_a0_readings 4 (a0.readings.map encReading)) (F : law01_LevelShares a0 a1 = some res) : Calls Try.prog 11 #[.agg #[.int .i64 a0.points, .slice A_a0_readings a0.readings.length c_a0_readings], .int .i64 a1] w (Rt w (.bool res)) := by
  refine calls_of_cw (args := [.agg #[.int .i64 a0.points, .slice A_a0_readings a0.readings.length c_a0_readings], .int .i64 a1]) Try.func11 rfl rfl rfl rfl ?_
  have H := Hp.start w
  have R0 := H.ext
  unfold law01_LevelShares at F
  refine CW.seq fun K1 hK1 => ?_
  refine CW.region ?_
  refine LW.go rfl rfl (OW.box rfl fun b1 w1 N1 => ?_)
  replace H := H.new N1 N1.blk
  replace R0 := H.ext
  refine LW.pure rfl rfl (RV.assign rfl) ?_
  refine LW.nil (hK1 _ _ ?_)
  refine CW.seq fun K2 hK2 => ?_
  refine CW.seq fun K3 hK3 => ?_
  obtain ⟨r1, hr1, F⟩ := bnd_some F
  refine CW.region ?_
  refine LW.pure rfl rfl (RV.loadA [.int .i64 a0.points, .slice A_a0_readings a0.readings.length c_a0_readings] Tk24 rfl (H.blk 0 rfl).cells rfl rfl) ?_
  refine LW.go rfl rfl (OW.call Tc17 rfl (law01_Long_ok (a0 := a0) (h_a0_readings.ext R0) hr1) ?_)
  rintro _ w2 ⟨rfl, E1⟩
  refine ⟨_, rfl, ?_⟩
  replace H := H.grow E1
  replace R0 := H.ext
  refine LW.nil (hK3 _ _ ?_)
  by_cases hp1 : r1 = true
  ·
    replace F := ite_y hp1 F
    have hq1 : r1 = true := hp1
    refine CW.condT rfl hq1 ?_
    refine CW.seq fun K4 hK4 => ?_
    obtain ⟨r2, hr2, F⟩ := bnd_some F
    refine CW.region ?_
    refine LW.go rfl rfl (OW.call Tc18 rfl (law01_known_ok hr2) ?_)
    rintro _ w3 ⟨rfl, E2⟩
    refine ⟨_, rfl, ?_⟩
    replace H := H.grow E2
    replace R0 := H.ext
    refine LW.pure rfl rfl (RV.assign rfl) ?_
    refine LW.nil (hK4 _ _ ?_)
    refine CW.ret ?_
    obtain rfl := Option.some.inj F
    refine ⟨_, (ResOK.one rfl), ?_⟩
    refine ⟨(by first | rfl | simp), R0⟩
  ·
    replace F := ite_n hp1 F
    have hq1 : r1 = false := raw_f hp1
    refine CW.condF rfl hq1 ?_
    refine CW.skip (hK2 _ _ ?_)
    refine CW.seq fun K5 hK5 => ?_
    obtain ⟨r3, hr3, F⟩ := bnd_some F
    refine CW.region ?_
    refine LW.pure rfl rfl (RV.loadA [.int .i64 a0.points, .slice A_a0_readings a0.readings.length c_a0_readings] Tk24 rfl (H.blk 0 rfl).cells rfl rfl) ?_
    refine LW.pure rfl rfl (RV.move rfl) ?_
    refine LW.go rfl rfl (OW.call Tc32 rfl (level_Share_ok (a0 := a0) (a1 := a1) (h_a0_readings.ext R0) hr3) ?_)
    rintro _ w4 ⟨rfl, E3⟩
    refine ⟨_, rfl, ?_⟩
    replace H := H.grow E3
    replace R0 := H.ext
    refine LW.pure rfl rfl (RV.move rfl) ?_
    refine LW.pure rfl rfl (RV.extract rfl rfl) ?_
    refine LW.pure rfl rfl (RV.extract rfl rfl) ?_
    refine LW.go rfl rfl (OW.alloc Tz28 fun b2 w5 N2 => ?_)
    replace H := H.new N2 N2.blk
    replace R0 := H.ext
    refine LW.go rfl rfl (OW.store Tk28 rfl rfl (H.blk 0 rfl) (off := 0) (vs := [.int .i64 r3.1.num, .int .i64 r3.1.den]) rfl rfl rfl rfl rfl fun w6 S1 => ?_)
    replace H : Hp w w6 [.blk b2 28 [.int .i64 r3.1.num, .int .i64 r3.1.den], .blk b1 24 [.int .i64 a0.points, .slice A_a0_readings a0.readings.length c_a0_readings]] := H.stored 0 rfl S1
    replace R0 := H.ext
    refine LW.pure rfl rfl (RV.assign rfl) ?_
    refine LW.nil (hK5 _ _ ?_)
    refine CW.seq fun K6 hK6 => ?_
    obtain ⟨r4, hr4, F⟩ := bnd_some F
    refine CW.region ?_
    refine LW.pure rfl rfl (RV.loadA [.int .i64 a0.points, .slice A_a0_readings a0.readings.length c_a0_readings] Tk24 rfl (H.blk 1 rfl).cells rfl rfl) ?_
    refine LW.pure rfl rfl (RV.move rfl) ?_
    refine LW.go rfl rfl (OW.call Tc43 rfl (ref01_Share_ok (a0 := a0) (a1 := a1) (h_a0_readings.ext R0) hr4) ?_)
    rintro _ w7 ⟨rfl, E4⟩
    refine ⟨_, rfl, ?_⟩
    replace H := H.grow E4
    replace R0 := H.ext
    refine LW.pure rfl rfl (RV.move rfl) ?_
    refine LW.pure rfl rfl (RV.extract rfl rfl) ?_
    refine LW.pure rfl rfl (RV.extract rfl rfl) ?_
    refine LW.go rfl rfl (OW.alloc Tz28 fun b3 w8 N3 => ?_)
    replace H := H.new N3 N3.blk
    replace R0 := H.ext
    refine LW.go rfl rfl (OW.store Tk28 rfl rfl (H.blk 0 rfl) (off := 0) (vs := [.int .i64 r4.1.num, .int .i64 r4.1.den]) rfl rfl rfl rfl rfl fun w9 S2 => ?_)
    replace H : Hp w w9 [.blk b3 28 [.int .i64 r4.1.num, .int .i64 r4.1.den], .blk b2 28 [.int .i64 r3.1.num, .int .i64 r3.1.den], .blk b1 24 [.int .i64 a0.points, .slice A_a0_readings a0.readings.length c_a0_readings]] := H.stored 0 rfl S2
    replace R0 := H.ext
    refine LW.pure rfl rfl (RV.assign rfl) ?_
    refine LW.nil (hK6 _ _ ?_)
    refine CW.seq fun K7 hK7 => ?_
    obtain ⟨r5, hr5, F⟩ := bnd_some F
    refine CW.region ?_
    refine LW.pure rfl rfl (RV.loadA [.int .i64 a0.points, .slice A_a0_readings a0.readings.length c_a0_readings] Tk24 rfl (H.blk 2 rfl).cells rfl rfl) ?_
    refine LW.pure rfl rfl (RV.move rfl) ?_
    refine LW.go rfl rfl (OW.call Tc44 rfl (level_IsBridge_ok (a0 := a0) (a1 := a1) (h_a0_readings.ext R0) hr5) ?_)
    rintro _ w10 ⟨rfl, E5⟩
    refine ⟨_, rfl, ?_⟩
    replace H := H.grow E5
    replace R0 := H.ext
    refine LW.pure rfl rfl (RV.move rfl) ?_
    refine LW.pure rfl rfl (RV.extract rfl rfl) ?_
    refine LW.pure rfl rfl (RV.extract rfl rfl) ?_
    refine LW.pure rfl rfl (RV.assign rfl) ?_
    refine LW.pure rfl rfl (RV.assign rfl) ?_
    refine LW.nil (hK7 _ _ ?_)
    refine CW.seq fun K8 hK8 => ?_
    obtain ⟨r6, hr6, F⟩ := bnd_some F
    refine CW.region ?_
    refine LW.pure rfl rfl (RV.loadA [.int .i64 a0.points, .slice A_a0_readings a0.readings.length c_a0_readings] Tk24 rfl (H.blk 2 rfl).cells rfl rfl) ?_
    refine LW.pure rfl rfl (RV.move rfl) ?_
    refine LW.go rfl rfl (OW.call Tc45 rfl (ref01_IsBridge_ok (a0 := a0) (a1 := a1) (h_a0_readings.ext R0) hr6) ?_)
    rintro _ w11 ⟨rfl, E6⟩
    refine ⟨_, rfl, ?_⟩
    replace H := H.grow E6
    replace R0 := H.ext
    refine LW.pure rfl rfl (RV.move rfl) ?_
    refine LW.pure rfl rfl (RV.extract rfl rfl) ?_
    refine LW.pure rfl rfl (RV.extract rfl rfl) ?_
    refine LW.pure rfl rfl (RV.assign rfl) ?_
    refine LW.pure rfl rfl (RV.assign rfl) ?_
    refine LW.nil (hK8 _ _ ?_)
    refine CW.seq fun K9 hK9 => ?_
    by_cases hp2 : ((r3.1.num == r4.1.num) && (r3.1.den == r4.1.den)) = true
    ·
      replace F := ite_y hp2 F
      have hq2 : ((r3.1.num == r4.1.num) && (r3.1.den == r4.1.den)) = true := hp2
      by_cases hp3 : r3.2 = r4.2
      ·
        replace F := ite_y hp3 F
        have hq3 := dec_t hp3
        by_cases hp4 : (r5.1 == r6.1) = true
        ·
          replace F := ite_y hp4 F
          have hq4 : (r5.1 == r6.1) = true := hp4
          by_cases hp5 : r5.2 = r6.2
          ·
            replace F := ite_y hp5 F
            have hq5 := dec_t hp5
            by_cases hp6 : r3.2 = 0
            ·
              replace F := ite_y hp6 F
              have hq6 := dec_t hp6
              by_cases hp7 : (r5.1 == ((r3.1.num == 1) && (r3.1.den == 1))) = true
              ·
                replace F := ite_y hp7 F
                have hq7 : (r5.1 == ((r3.1.num == 1) && (r3.1.den == 1))) = true := hp7
                obtain ⟨r7, hr7, F⟩ := bnd_some F
                refine CW.region ?_
                refine LW.pure rfl rfl (RV.loadA [.int .i64 r3.1.num, .int .i64 r3.1.den] Tk28 rfl (H.blk 1 rfl).cells rfl rfl) ?_
                refine LW.pure rfl rfl (RV.loadA [.int .i64 r4.1.num, .int .i64 r4.1.den] Tk28 rfl (H.blk 0 rfl).cells rfl rfl) ?_
                refine LW.pure rfl rfl (RV.eqA Te28g (Te28 _ _ _ _ ) rfl rfl) ?_
                refine LW.pure rfl rfl (RV.move rfl) ?_
                refine LW.pureYB rfl rfl rfl rfl hq2 (RV.move rfl) ?_
                refine LW.pureYB rfl rfl rfl rfl hq2 (RV.move rfl) ?_
                refine LW.pureYB rfl rfl rfl rfl hq2 (RV.eqi rfl rfl) ?_
                refine LW.pure rfl rfl (RV.pickTB rfl hq2 rfl) ?_
                refine LW.pure rfl rfl (RV.move rfl) ?_
                refine LW.pureYB rfl rfl rfl rfl hq3 (RV.move rfl) ?_
                refine LW.pureYB rfl rfl rfl rfl hq3 (RV.move rfl) ?_
                refine LW.pureYB rfl rfl rfl rfl hq3 (RV.eqb Tb4 rfl rfl) ?_
                refine LW.pure rfl rfl (RV.pickTB rfl hq3 rfl) ?_
                refine LW.pure rfl rfl (RV.move rfl) ?_
                refine LW.pureYB rfl rfl rfl rfl hq4 (RV.move rfl) ?_
                refine LW.pureYB rfl rfl rfl rfl hq4 (RV.move rfl) ?_
                refine LW.pureYB rfl rfl rfl rfl hq4 (RV.eqi rfl rfl) ?_
                refine LW.pure rfl rfl (RV.pickTB rfl hq4 rfl) ?_
                refine LW.pure rfl rfl (RV.move rfl) ?_
                refine LW.pureYB rfl rfl rfl rfl hq5 (RV.move rfl) ?_
                refine LW.pureYB rfl rfl rfl rfl hq5 (RV.nei rfl rfl) ?_
                refine LW.pureYB rfl rfl rfl rfl hq5 (RV.move rfl) ?_
                refine LW.pureYB rfl rfl rfl rfl (not_f hq6) (RV.move rfl) ?_
                refine LW.pureYB rfl rfl rfl rfl (not_f hq6) (RV.loadA [.int .i64 r3.1.num, .int .i64 r3.1.den] Tk28 rfl (H.blk 1 rfl).cells rfl rfl) ?_
                refine LW.pureYB rfl rfl rfl rfl (not_f hq6) (RV.build (vs := [.int .i64 1, .int .i64 1]) (cs := [.int .i64 1, .int .i64 1]) rfl (fun _ => by kernel_rfl)) ?_
                refine LW.pureYB rfl rfl rfl rfl (not_f hq6) (RV.eqA Te28g (Te28 _ _ _ _ ) rfl rfl) ?_
                refine LW.pureYB rfl rfl rfl rfl (not_f hq6) (RV.eqb Tb4 rfl rfl) ?_
                refine LW.pureYB rfl rfl rfl rfl hq5 (RV.pickFB rfl (not_f hq6) rfl) ?_
                refine LW.pure rfl rfl (RV.pickTB rfl hq5 rfl) ?_
                refine LW.pure rfl rfl (RV.move rfl) ?_
                refine LW.yesB rfl rfl rfl rfl hq7 (OW.call Tc18 rfl (law01_known_ok hr7) ?_)
                rintro _ w12 ⟨rfl, E7⟩
                refine ⟨_, rfl, ?_⟩
                replace H := H.grow E7
                replace R0 := H.ext
                refine LW.pure rfl rfl (RV.pickTB rfl hq7 rfl) ?_
                refine LW.pure rfl rfl (RV.assign rfl) ?_
                refine LW.nil (hK9 _ _ ?_)
                refine CW.ret ?_
                obtain rfl := Option.some.inj F
                refine ⟨_, (ResOK.one rfl), ?_⟩
                refine ⟨(by first | rfl | simp), R0⟩
              ·
                replace F := ite_n hp7 F
                have hq7 : (r5.1 == ((r3.1.num == 1) && (r3.1.den == 1))) = false := raw_f hp7
                refine CW.region ?_
                refine LW.pure rfl rfl (RV.loadA [.int .i64 r3.1.num, .int .i64 r3.1.den] Tk28 rfl (H.blk 1 rfl).cells rfl rfl) ?_
                refine LW.pure rfl rfl (RV.loadA [.int .i64 r4.1.num, .int .i64 r4.1.den] Tk28 rfl (H.blk 0 rfl).cells rfl rfl) ?_
                refine LW.pure rfl rfl (RV.eqA Te28g (Te28 _ _ _ _ ) rfl rfl) ?_
                refine LW.pure rfl rfl (RV.move rfl) ?_
                refine LW.pureYB rfl rfl rfl rfl hq2 (RV.move rfl) ?_
                refine LW.pureYB rfl rfl rfl rfl hq2 (RV.move rfl) ?_
                refine LW.pureYB rfl rfl rfl rfl hq2 (RV.eqi rfl rfl) ?_
                refine LW.pure rfl rfl (RV.pickTB rfl hq2 rfl) ?_
                refine LW.pure rfl rfl (RV.move rfl) ?_
                refine LW.pureYB rfl rfl rfl rfl hq3 (RV.move rfl) ?_
                refine LW.pureYB rfl rfl rfl rfl hq3 (RV.move rfl) ?_
                refine LW.pureYB rfl rfl rfl rfl hq3 (RV.eqb Tb4 rfl rfl) ?_
                refine LW.pure rfl rfl (RV.pickTB rfl hq3 rfl) ?_
                refine LW.pure rfl rfl (RV.move rfl) ?_
                refine LW.pureYB rfl rfl rfl rfl hq4 (RV.move rfl) ?_
                refine LW.pureYB rfl rfl rfl rfl hq4 (RV.move rfl) ?_
                refine LW.pureYB rfl rfl rfl rfl hq4 (RV.eqi rfl rfl) ?_
                refine LW.pure rfl rfl (RV.pickTB rfl hq4 rfl) ?_
                refine LW.pure rfl rfl (RV.move rfl) ?_
                refine LW.pureYB rfl rfl rfl rfl hq5 (RV.move rfl) ?_
                refine LW.pureYB rfl rfl rfl rfl hq5 (RV.nei rfl rfl) ?_
                refine LW.pureYB rfl rfl rfl rfl hq5 (RV.move rfl) ?_
                refine LW.pureYB rfl rfl rfl rfl (not_f hq6) (RV.move rfl) ?_
                refine LW.pureYB rfl rfl rfl rfl (not_f hq6) (RV.loadA [.int .i64 r3.1.num, .int .i64 r3.1.den] Tk28 rfl (H.blk 1 rfl).cells rfl rfl) ?_
                refine LW.pureYB rfl rfl rfl rfl (not_f hq6) (RV.build (vs := [.int .i64 1, .int .i64 1]) (cs := [.int .i64 1, .int .i64 1]) rfl (fun _ => by kernel_rfl)) ?_
                refine LW.pureYB rfl rfl rfl rfl (not_f hq6) (RV.eqA Te28g (Te28 _ _ _ _ ) rfl rfl) ?_
                refine LW.pureYB rfl rfl rfl rfl (not_f hq6) (RV.eqb Tb4 rfl rfl) ?_
                refine LW.pureYB rfl rfl rfl rfl hq5 (RV.pickFB rfl (not_f hq6) rfl) ?_
                refine LW.pure rfl rfl (RV.pickTB rfl hq5 rfl) ?_
                refine LW.pure rfl rfl (RV.move rfl) ?_
                refine LW.noB rfl rfl rfl rfl (ne_beq (v := false) hq7 rfl) ?_
                refine LW.pure rfl rfl (RV.pickFB rfl hq7 rfl) ?_
                refine LW.pure rfl rfl (RV.assign rfl) ?_
                refine LW.nil (hK9 _ _ ?_)
                refine CW.ret ?_
                obtain rfl := Option.some.inj F
                refine ⟨_, (ResOK.one rfl), ?_⟩
                refine ⟨(by first | rfl | simp), R0⟩
            ·
              replace F := ite_n hp6 F
              have hq6 := dec_f hp6
              obtain ⟨r8, hr8, F⟩ := bnd_some F
              refine CW.region ?_
              refine LW.pure rfl rfl (RV.loadA [.int .i64 r3.1.num, .int .i64 r3.1.den] Tk28 rfl (H.blk 1 rfl).cells rfl rfl) ?_
              refine LW.pure rfl rfl (RV.loadA [.int .i64 r4.1.num, .int .i64 r4.1.den] Tk28 rfl (H.blk 0 rfl).cells rfl rfl) ?_
              refine LW.pure rfl rfl (RV.eqA Te28g (Te28 _ _ _ _ ) rfl rfl) ?_
              refine LW.pure rfl rfl (RV.move rfl) ?_
              refine LW.pureYB rfl rfl rfl rfl hq2 (RV.move rfl) ?_
              refine LW.pureYB rfl rfl rfl rfl hq2 (RV.move rfl) ?_
              refine LW.pureYB rfl rfl rfl rfl hq2 (RV.eqi rfl rfl) ?_
              refine LW.pure rfl rfl (RV.pickTB rfl hq2 rfl) ?_
              refine LW.pure rfl rfl (RV.move rfl) ?_
              refine LW.pureYB rfl rfl rfl rfl hq3 (RV.move rfl) ?_
              refine LW.pureYB rfl rfl rfl rfl hq3 (RV.move rfl) ?_
              refine LW.pureYB rfl rfl rfl rfl hq3 (RV.eqb Tb4 rfl rfl) ?_
              refine LW.pure rfl rfl (RV.pickTB rfl hq3 rfl) ?_
              refine LW.pure rfl rfl (RV.move rfl) ?_
              refine LW.pureYB rfl rfl rfl rfl hq4 (RV.move rfl) ?_
              refine LW.pureYB rfl rfl rfl rfl hq4 (RV.move rfl) ?_
              refine LW.pureYB rfl rfl rfl rfl hq4 (RV.eqi rfl rfl) ?_
              refine LW.pure rfl rfl (RV.pickTB rfl hq4 rfl) ?_
              refine LW.pure rfl rfl (RV.move rfl) ?_
              refine LW.pureYB rfl rfl rfl rfl hq5 (RV.move rfl) ?_
              refine LW.pureYB rfl rfl rfl rfl hq5 (RV.nei rfl rfl) ?_
              refine LW.pureYB rfl rfl rfl rfl hq5 (RV.move rfl) ?_
              refine LW.noB rfl rfl rfl rfl (ne_beq (v := true) (not_t hq6) rfl) ?_
              refine LW.noB rfl rfl rfl rfl (ne_beq (v := true) (not_t hq6) rfl) ?_
              refine LW.noB rfl rfl rfl rfl (ne_beq (v := true) (not_t hq6) rfl) ?_
              refine LW.noB rfl rfl rfl rfl (ne_beq (v := true) (not_t hq6) rfl) ?_
              refine LW.noB rfl rfl rfl rfl (ne_beq (v := true) (not_t hq6) rfl) ?_
              refine LW.pureYB rfl rfl rfl rfl hq5 (RV.pickTB rfl (not_t hq6) rfl) ?_
              refine LW.pure rfl rfl (RV.pickTB rfl hq5 rfl) ?_
              refine LW.pure rfl rfl (RV.move rfl) ?_
              refine LW.yesB rfl rfl rfl rfl rfl (OW.call Tc18 rfl (law01_known_ok hr8) ?_)
              rintro _ w13 ⟨rfl, E8⟩
              refine ⟨_, rfl, ?_⟩
              replace H := H.grow E8
              replace R0 := H.ext
              refine LW.pure rfl rfl (RV.pickTB rfl rfl rfl) ?_
              refine LW.pure rfl rfl (RV.assign rfl) ?_
              refine LW.nil (hK9 _ _ ?_)
              refine CW.ret ?_
              obtain rfl := Option.some.inj F
              refine ⟨_, (ResOK.one rfl), ?_⟩
              refine ⟨(by first | rfl | simp), R0⟩
          ·
            replace F := ite_n hp5 F
            have hq5 := dec_f hp5
            refine CW.region ?_
            refine LW.pure rfl rfl (RV.loadA [.int .i64 r3.1.num, .int .i64 r3.1.den] Tk28 rfl (H.blk 1 rfl).cells rfl rfl) ?_
            refine LW.pure rfl rfl (RV.loadA [.int .i64 r4.1.num, .int .i64 r4.1.den] Tk28 rfl (H.blk 0 rfl).cells rfl rfl) ?_
            refine LW.pure rfl rfl (RV.eqA Te28g (Te28 _ _ _ _ ) rfl rfl) ?_
            refine LW.pure rfl rfl (RV.move rfl) ?_
            refine LW.pureYB rfl rfl rfl rfl hq2 (RV.move rfl) ?_
            refine LW.pureYB rfl rfl rfl rfl hq2 (RV.move rfl) ?_
            refine LW.pureYB rfl rfl rfl rfl hq2 (RV.eqi rfl rfl) ?_
            refine LW.pure rfl rfl (RV.pickTB rfl hq2 rfl) ?_
            refine LW.pure rfl rfl (RV.move rfl) ?_
            refine LW.pureYB rfl rfl rfl rfl hq3 (RV.move rfl) ?_
            refine LW.pureYB rfl rfl rfl rfl hq3 (RV.move rfl) ?_
            refine LW.pureYB rfl rfl rfl rfl hq3 (RV.eqb Tb4 rfl rfl) ?_
            refine LW.pure rfl rfl (RV.pickTB rfl hq3 rfl) ?_
            refine LW.pure rfl rfl (RV.move rfl) ?_
            refine LW.pureYB rfl rfl rfl rfl hq4 (RV.move rfl) ?_
            refine LW.pureYB rfl rfl rfl rfl hq4 (RV.move rfl) ?_
            refine LW.pureYB rfl rfl rfl rfl hq4 (RV.eqi rfl rfl) ?_
            refine LW.pure rfl rfl (RV.pickTB rfl hq4 rfl) ?_
            refine LW.pure rfl rfl (RV.move rfl) ?_
            refine LW.noB rfl rfl rfl rfl (ne_beq (v := false) hq5 rfl) ?_
            refine LW.noB rfl rfl rfl rfl (ne_beq (v := false) hq5 rfl) ?_
            refine LW.noB rfl rfl rfl rfl (ne_beq (v := false) hq5 rfl) ?_
            refine LW.noU rfl rfl rfl rfl ?_
            refine LW.noU rfl rfl rfl rfl ?_
            refine LW.noU rfl rfl rfl rfl ?_
            refine LW.noU rfl rfl rfl rfl ?_
            refine LW.noU rfl rfl rfl rfl ?_
            refine LW.noB rfl rfl rfl rfl (ne_beq (v := false) hq5 rfl) ?_
            refine LW.pure rfl rfl (RV.pickFB rfl hq5 rfl) ?_
            refine LW.pure rfl rfl (RV.move rfl) ?_
            refine LW.noB rfl rfl rfl rfl (ne_beq (v := false) rfl rfl) ?_
            refine LW.pure rfl rfl (RV.pickFB rfl rfl rfl) ?_
            refine LW.pure rfl rfl (RV.assign rfl) ?_
            refine LW.nil (hK9 _ _ ?_)
            refine CW.ret ?_
            obtain rfl := Option.some.inj F
            refine ⟨_, (ResOK.one rfl), ?_⟩
            refine ⟨(by first | rfl | simp), R0⟩
        ·
          replace F := ite_n hp4 F
          have hq4 : (r5.1 == r6.1) = false := raw_f hp4
          refine CW.region ?_
          refine LW.pure rfl rfl (RV.loadA [.int .i64 r3.1.num, .int .i64 r3.1.den] Tk28 rfl (H.blk 1 rfl).cells rfl rfl) ?_
          refine LW.pure rfl rfl (RV.loadA [.int .i64 r4.1.num, .int .i64 r4.1.den] Tk28 rfl (H.blk 0 rfl).cells rfl rfl) ?_
          refine LW.pure rfl rfl (RV.eqA Te28g (Te28 _ _ _ _ ) rfl rfl) ?_
          refine LW.pure rfl rfl (RV.move rfl) ?_
          refine LW.pureYB rfl rfl rfl rfl hq2 (RV.move rfl) ?_
          refine LW.pureYB rfl rfl rfl rfl hq2 (RV.move rfl) ?_
          refine LW.pureYB rfl rfl rfl rfl hq2 (RV.eqi rfl rfl) ?_
          refine LW.pure rfl rfl (RV.pickTB rfl hq2 rfl) ?_
          refine LW.pure rfl rfl (RV.move rfl) ?_
          refine LW.pureYB rfl rfl rfl rfl hq3 (RV.move rfl) ?_
          refine LW.pureYB rfl rfl rfl rfl hq3 (RV.move rfl) ?_
          refine LW.pureYB rfl rfl rfl rfl hq3 (RV.eqb Tb4 rfl rfl) ?_
          refine LW.pure rfl rfl (RV.pickTB rfl hq3 rfl) ?_
          refine LW.pure rfl rfl (RV.move rfl) ?_
          refine LW.noB rfl rfl rfl rfl (ne_beq (v := false) hq4 rfl) ?_
          refine LW.noB rfl rfl rfl rfl (ne_beq (v := false) hq4 rfl) ?_
          refine LW.noB rfl rfl rfl rfl (ne_beq (v := false) hq4 rfl) ?_
          refine LW.pure rfl rfl (RV.pickFB rfl hq4 rfl) ?_
          refine LW.pure rfl rfl (RV.move rfl) ?_
          refine LW.noB rfl rfl rfl rfl (ne_beq (v := false) rfl rfl) ?_
          refine LW.noB rfl rfl rfl rfl (ne_beq (v := false) rfl rfl) ?_
          refine LW.noB rfl rfl rfl rfl (ne_beq (v := false) rfl rfl) ?_
          refine LW.noU rfl rfl rfl rfl ?_
          refine LW.noU rfl rfl rfl rfl ?_
          refine LW.noU rfl rfl rfl rfl ?_
          refine LW.noU rfl rfl rfl rfl ?_
          refine LW.noU rfl rfl rfl rfl ?_
          refine LW.noB rfl rfl rfl rfl (ne_beq (v := false) rfl rfl) ?_
          refine LW.pure rfl rfl (RV.pickFB rfl rfl rfl) ?_
          refine LW.pure rfl rfl (RV.move rfl) ?_
          refine LW.noB rfl rfl rfl rfl (ne_beq (v := false) rfl rfl) ?_
          refine LW.pure rfl rfl (RV.pickFB rfl rfl rfl) ?_
          refine LW.pure rfl rfl (RV.assign rfl) ?_
          refine LW.nil (hK9 _ _ ?_)
          refine CW.ret ?_
          obtain rfl := Option.some.inj F
          refine ⟨_, (ResOK.one rfl), ?_⟩
          refine ⟨(by first | rfl | simp), R0⟩
      ·
        replace F := ite_n hp3 F
        have hq3 := dec_f hp3
        refine CW.region ?_
        refine LW.pure rfl rfl (RV.loadA [.int .i64 r3.1.num, .int .i64 r3.1.den] Tk28 rfl (H.blk 1 rfl).cells rfl rfl) ?_
        refine LW.pure rfl rfl (RV.loadA [.int .i64 r4.1.num, .int .i64 r4.1.den] Tk28 rfl (H.blk 0 rfl).cells rfl rfl) ?_
        refine LW.pure rfl rfl (RV.eqA Te28g (Te28 _ _ _ _ ) rfl rfl) ?_
        refine LW.pure rfl rfl (RV.move rfl) ?_
        refine LW.pureYB rfl rfl rfl rfl hq2 (RV.move rfl) ?_
        refine LW.pureYB rfl rfl rfl rfl hq2 (RV.move rfl) ?_
        refine LW.pureYB rfl rfl rfl rfl hq2 (RV.eqi rfl rfl) ?_
        refine LW.pure rfl rfl (RV.pickTB rfl hq2 rfl) ?_
        refine LW.pure rfl rfl (RV.move rfl) ?_
        refine LW.noB rfl rfl rfl rfl (ne_beq (v := false) hq3 rfl) ?_
        refine LW.noB rfl rfl rfl rfl (ne_beq (v := false) hq3 rfl) ?_
        refine LW.noB rfl rfl rfl rfl (ne_beq (v := false) hq3 rfl) ?_
        refine LW.pure rfl rfl (RV.pickFB rfl hq3 rfl) ?_
        refine LW.pure rfl rfl (RV.move rfl) ?_
        refine LW.noB rfl rfl rfl rfl (ne_beq (v := false) rfl rfl) ?_
        refine LW.noB rfl rfl rfl rfl (ne_beq (v := false) rfl rfl) ?_
        refine LW.noB rfl rfl rfl rfl (ne_beq (v := false) rfl rfl) ?_
        refine LW.pure rfl rfl (RV.pickFB rfl rfl rfl) ?_
        refine LW.pure rfl rfl (RV.move rfl) ?_
        refine LW.noB rfl rfl rfl rfl (ne_beq (v := false) rfl rfl) ?_
        refine LW.noB rfl rfl rfl rfl (ne_beq (v := false) rfl rfl) ?_
        refine LW.noB rfl rfl rfl rfl (ne_beq (v := false) rfl rfl) ?_
        refine LW.noU rfl rfl rfl rfl ?_
        refine LW.noU rfl rfl rfl rfl ?_
        refine LW.noU rfl rfl rfl rfl ?_
        refine LW.noU rfl rfl rfl rfl ?_
        refine LW.noU rfl rfl rfl rfl ?_
        refine LW.noB rfl rfl rfl rfl (ne_beq (v := false) rfl rfl) ?_
        refine LW.pure rfl rfl (RV.pickFB rfl rfl rfl) ?_
        refine LW.pure rfl rfl (RV.move rfl) ?_
        refine LW.noB rfl rfl rfl rfl (ne_beq (v := false) rfl rfl) ?_
        refine LW.pure rfl rfl (RV.pickFB rfl rfl rfl) ?_
        refine LW.pure rfl rfl (RV.assign rfl) ?_
        refine LW.nil (hK9 _ _ ?_)
        refine CW.ret ?_
        obtain rfl := Option.some.inj F
        refine ⟨_, (ResOK.one rfl), ?_⟩
        refine ⟨(by first | rfl | simp), R0⟩
    ·
      replace F := ite_n hp2 F
      have hq2 : ((r3.1.num == r4.1.num) && (r3.1.den == r4.1.den)) = false := raw_f hp2
      refine CW.region ?_
      refine LW.pure rfl rfl (RV.loadA [.int .i64 r3.1.num, .int .i64 r3.1.den] Tk28 rfl (H.blk 1 rfl).cells rfl rfl) ?_
      refine LW.pure rfl rfl (RV.loadA [.int .i64 r4.1.num, .int .i64 r4.1.den] Tk28 rfl (H.blk 0 rfl).cells rfl rfl) ?_
      refine LW.pure rfl rfl (RV.eqA Te28g (Te28 _ _ _ _ ) rfl rfl) ?_
      refine LW.pure rfl rfl (RV.move rfl) ?_
      refine LW.noB rfl rfl rfl rfl (ne_beq (v := false) hq2 rfl) ?_
      refine LW.noB rfl rfl rfl rfl (ne_beq (v := false) hq2 rfl) ?_
      refine LW.noB rfl rfl rfl rfl (ne_beq (v := false) hq2 rfl) ?_
      refine LW.pure rfl rfl (RV.pickFB rfl hq2 rfl) ?_
      refine LW.pure rfl rfl (RV.move rfl) ?_
      refine LW.noB rfl rfl rfl rfl (ne_beq (v := false) rfl rfl) ?_
      refine LW.noB rfl rfl rfl rfl (ne_beq (v := false) rfl rfl) ?_
      refine LW.noB rfl rfl rfl rfl (ne_beq (v := false) rfl rfl) ?_
      refine LW.pure rfl rfl (RV.pickFB rfl rfl rfl) ?_
      refine LW.pure rfl rfl (RV.move rfl) ?_
      refine LW.noB rfl rfl rfl rfl (ne_beq (v := false) rfl rfl) ?_
      refine LW.noB rfl rfl rfl rfl (ne_beq (v := false) rfl rfl) ?_
      refine LW.noB rfl rfl rfl rfl (ne_beq (v := false) rfl rfl) ?_
      refine LW.pure rfl rfl (RV.pickFB rfl rfl rfl) ?_
      refine LW.pure rfl rfl (RV.move rfl) ?_
      refine LW.noB rfl rfl rfl rfl (ne_beq (v := false) rfl rfl) ?_
      refine LW.noB rfl rfl rfl rfl (ne_beq (v := false) rfl rfl) ?_
      refine LW.noB rfl rfl rfl rfl (ne_beq (v := false) rfl rfl) ?_
      refine LW.noU rfl rfl rfl rfl ?_
      refine LW.noU rfl rfl rfl rfl ?_
      refine LW.noU rfl rfl rfl rfl ?_
      refine LW.noU rfl rfl rfl rfl ?_
      refine LW.noU rfl rfl rfl rfl ?_
      refine LW.noB rfl rfl rfl rfl (ne_beq (v := false) rfl rfl) ?_
      refine LW.pure rfl rfl (RV.pickFB rfl rfl rfl) ?_
      refine LW.pure rfl rfl (RV.move rfl) ?_
      refine LW.noB rfl rfl rfl rfl (ne_beq (v := false) rfl rfl) ?_
      refine LW.pure rfl rfl (RV.pickFB rfl rfl rfl) ?_
      refine LW.pure rfl rfl (RV.assign rfl) ?_
      refine LW.nil (hK9 _ _ ?_)
      refine CW.ret ?_
      obtain rfl := Option.some.inj F
      refine ⟨_, (ResOK.one rfl), ?_⟩
      refine ⟨(by first | rfl | simp), R0⟩
end Go.D1

namespace Go.Tb
/-- A loop over 0 .. N - 1 with a state, that is left at the first i for which p does not hold. -/
theorem scan_loop {S R : Type} (N : Nat) (p : Nat → Bool) (g : Nat → S) (L : Nat → S → Int → Option R) (yes : Option R) (no : Nat → Option R)
    (step : ∀ n i : Nat, i < N → L (n + 1) (g i) (i : Int) = if p i = true then L n (g (i + 1)) ((i + 1 : Nat) : Int) else no i)
    (stop : ∀ n : Nat, L (n + 1) (g N) (N : Int) = yes) : ∀ (d n i : Nat), N = i + d → d < n → L n (g i) (i : Int) = match (List.range' i d).find? (fun j => !p j) with | none => yes | some j => no j
  | 0, n + 1, i, hd, hn => by
    have hi : i = N := by omega
    subst hi
    rw [stop n]; rfl
  | d + 1, n + 1, i, hd, hn => by
    rw [step n i (by omega), List.range'_succ, List.find?_cons]
    cases hp : p i
    · simp
    · simp only [if_true, Bool.not_true]
      exact scan_loop N p g L yes no step stop d n (i + 1) (by omega) (by omega)
theorem find_all {p : Nat → Bool} {i d : Nat} : (List.range' i d).find? (fun j => !p j) = none ↔ ∀ j, i ≤ j → j < i + d → p j = true := by
  rw [List.find?_eq_none]
  constructor
  · intro h j h1 h2
    have := h j (by rw [List.mem_range'_1]; omega)
    simpa using this
  · intro h x hx
    rw [List.mem_range'_1] at hx
    simp [h x hx.1 hx.2]
/-- A loop over 0 .. N - 1 with a state and no way out. -/
theorem for_loop {S R : Type} (N : Nat) (g : Nat → S) (L : Nat → S → Int → Option R) (yes : Option R)
    (step : ∀ n i : Nat, i < N → L (n + 1) (g i) (i : Int) = L n (g (i + 1)) ((i + 1 : Nat) : Int))
    (stop : ∀ n : Nat, L (n + 1) (g N) (N : Int) = yes) : ∀ (d n i : Nat), N = i + d → d < n → L n (g i) (i : Int) = yes
  | 0, n + 1, i, hd, hn => by
    have hi : i = N := by omega
    subst hi
    exact stop n
  | d + 1, n + 1, i, hd, hn => by
    rw [step n i (by omega)]
    exact for_loop N g L yes step stop d n (i + 1) (by omega) (by omega)
theorem for_loop0 {S R : Type} (N : Nat) (g : Nat → S) (L : Nat → S → Int → Option R) (yes : Option R)
    (step : ∀ n i : Nat, i < N → L (n + 1) (g i) (i : Int) = L n (g (i + 1)) ((i + 1 : Nat) : Int))
    (stop : ∀ n : Nat, L (n + 1) (g N) (N : Int) = yes) (hN : N ≤ 9223372036854775807) : L FU (g 0) 0 = yes :=
  for_loop N g L yes step stop N FU 0 (by omega) (by have := FU_pos; omega)
theorem scan_loop0 {S R : Type} (N : Nat) (p : Nat → Bool) (g : Nat → S) (L : Nat → S → Int → Option R) (yes no : Option R)
    (step : ∀ n i : Nat, i < N → L (n + 1) (g i) (i : Int) = if p i = true then L n (g (i + 1)) ((i + 1 : Nat) : Int) else no)
    (stop : ∀ n : Nat, L (n + 1) (g N) (N : Int) = yes) (hN : N ≤ 9223372036854775807) : L FU (g 0) 0 = if (∀ j, j < N → p j = true) then yes else no := by
  have h := scan_loop N p g L yes (fun _ => no) step stop N FU 0 (by omega) (by have := FU_pos; omega)
  refine Eq.trans h ?_
  cases hf : (List.range' 0 N).find? (fun j => !p j) with
  | none => rw [if_pos (fun j hj => find_all.1 hf j (by omega) (by omega))]
  | some j =>
    have h1 := List.find?_some hf
    have h2 := List.mem_of_find?_eq_some hf
    rw [List.mem_range'_1] at h2
    rw [if_neg]
    intro hall
    have := hall j (by omega)
    simp [this] at h1
/-- The same over the elements of a list. -/
theorem list_loop0 {α R : Type} (l : List α) (p : α → Bool) (L : Nat → Int → Option R) (yes no : Option R)
    (step : ∀ (n i : Nat) (x : α), l[i]? = some x → L (n + 1) (i : Int) = if p x = true then L n ((i + 1 : Nat) : Int) else no)
    (stop : ∀ n : Nat, L (n + 1) (l.length : Int) = yes) (hl : l.length ≤ 9223372036854775807) : L FU 0 = if l.all p = true then yes else no := by
  have h := scan_loop0 l.length (fun i => (l[i]?.map p).getD true) (fun _ => ()) (fun n _ i => L n i) yes no (fun n i hi => by
    have hx : l[i]? = some l[i] := by simp [hi]
    rw [step n i _ hx]; simp [hx]) stop hl
  refine Eq.trans h ?_
  by_cases ha : l.all p = true
  · rw [if_pos ha, if_pos]
    intro j hj
    have := List.all_eq_true.1 ha l[j] (List.getElem_mem hj)
    simp [hj, this]
  · rw [if_neg ha, if_neg]
    intro hc
    refine ha (List.all_eq_true.2 fun x hx => ?_)
    obtain ⟨j, hj⟩ := List.getElem?_of_mem hx
    have := hc j (lt_of_at hj)
    simpa [hj] using this
end Go.Tb

set_option linter.unusedVariables false
set_option linter.unusedSimpArgs false
namespace Go.D1
open Go.Tb
theorem known_eq : law01_known = some true := by decide +kernel
theorem ix0 {α β : Type} {l : List α} {k : α → Option β} {x : α} (h : l[0]? = some x) : ix l 0 k = k x := ix_nat (i := 0) h
theorem for0 {S R : Type} (N : Nat) (g : Nat → S) (L : Nat → S → Int → Option R) (yes : Option R) {s0 : S} (h0 : g 0 = s0)
    (step : ∀ n i : Nat, i < N → L (n + 1) (g i) (i : Int) = L n (g (i + 1)) ((i + 1 : Nat) : Int))
    (stop : ∀ n : Nat, L (n + 1) (g N) (N : Int) = yes) (hN : N ≤ 9223372036854775807) : L FU s0 0 = yes := by
  rw [← h0]; exact for_loop0 N g L yes step stop hN
def gi (l : List Int) (i : Nat) : Int := l.getD i 0
theorem gi_at {l : List Int} {i : Nat} (h : i < l.length) : l[i]? = some (gi l i) := by simp [gi, List.getD, h]
theorem gi_of {l : List Int} {i : Nat} {x : Int} (h : l[i]? = some x) : gi l i = x := by simp [gi, List.getD, h]
theorem gi_set {l : List Int} {i j : Nat} {x : Int} : gi (l.set i x) j = if i = j ∧ j < l.length then x else gi l j := by
  unfold gi
  simp only [List.getD_eq_getElem?_getD, List.getElem?_set]
  by_cases h : i = j
  · subst h
    by_cases h2 : i < l.length
    · simp [h2]
    · simp [h2]
  · simp [h]
theorem gi_ext {l l' : List Int} (hl : l.length = l'.length) (h : ∀ j, j < l.length → gi l j = gi l' j) : l = l' := by
  apply List.ext_getElem?
  intro j
  by_cases hj : j < l.length
  · rw [gi_at hj, gi_at (by omega), h j hj]
  · rw [List.getElem?_eq_none (by omega), List.getElem?_eq_none (by omega)]
def within (n lo hi : Int) : Bool := decide (lo ≤ n) && decide (n ≤ hi)
theorem within_iff {n lo hi : Int} : within n lo hi = true ↔ lo ≤ n ∧ n ≤ hi := by unfold within; simp
theorem lwithin_eq (n lo hi : Int) : level_within n lo hi = some (within n lo hi) := by
  unfold level_within within
  by_cases h : lo ≤ n <;> simp [h]
theorem rwithin_eq (n lo hi : Int) : ref01_within n lo hi = some (within n lo hi) := by
  unfold ref01_within within
  by_cases h : lo ≤ n <;> simp [h]
def okR (s : Survey) (r : Reading) : Bool := within r.from_ 0 (s.points - 1) && within r.to_ 0 (s.points - 1) && !decide (r.from_ = r.to_) && within r.rise (-1000) 1000 && within r.weight 1 3
def validate (s : Survey) : Int := if within s.points 1 5 = true then (if 8 < s.readings.length then 3 else if s.readings.all (okR s) = true then 0 else 1) else 1
theorem Validate_eq (s : Survey) : level_Validate s = some (validate s) := by
  unfold level_Validate validate
  rw [bnd_eq (lwithin_eq _ _ _)]
  by_cases hp : within s.points 1 5 = true
  · have hw := within_iff.1 hp
    rw [if_pos hp, if_pos hp]
    by_cases h8 : 8 < s.readings.length
    · rw [if_pos (by omega), if_pos h8]
    · rw [if_neg (by omega), if_neg h8]
      refine Eq.trans (list_loop0 s.readings (okR s) (level_Validate_L1 s) (some 0) (some 1) (fun k i x hx => ?_) (fun k => ?_) (by omega)) (by split <;> rfl)
      · have := lt_of_at hx
        show level_Validate_B1 s (level_Validate_L1 s k) _ = _
        unfold level_Validate_B1 okR level_Validate_k2
        rw [if_pos (by omega), ix_nat hx, gd_pos (by omega), bnd_eq (lwithin_eq _ _ _)]
        cases h1 : within x.from_ 0 (s.points - 1)
        · rw [if_neg (by simp), if_pos rfl]; rfl
        · rw [if_pos rfl, gd_pos (by omega), bnd_eq (lwithin_eq _ _ _)]
          cases h2 : within x.to_ 0 (s.points - 1)
          · rw [if_neg (by simp), if_pos rfl]; rfl
          · rw [if_pos rfl]
            by_cases h3 : x.from_ = x.to_
            · rw [if_pos h3, if_pos rfl, decide_eq_true h3]; rfl
            · rw [if_neg h3, decide_eq_false h3, bnd_eq (lwithin_eq _ _ _)]
              cases h4 : within x.rise (-1000) 1000
              · rw [if_neg (by simp), if_pos rfl]; rfl
              · rw [if_pos rfl, bnd_eq (lwithin_eq _ _ _)]
                cases h5 : within x.weight 1 3
                · rw [if_pos (by rfl)]; rfl
                · rw [if_neg (by simp), gd_pos (by omega)]; rfl
      · show level_Validate_B1 s (level_Validate_L1 s k) _ = _
        unfold level_Validate_B1
        rw [if_neg (by omega)]; rfl
  · rw [if_neg hp, if_neg hp]
theorem rValidate_eq (s : Survey) : ref01_Validate s = some (validate s) := by
  unfold ref01_Validate validate
  rw [bnd_eq (rwithin_eq _ _ _)]
  by_cases hp : within s.points 1 5 = true
  · have hw := within_iff.1 hp
    rw [if_pos hp, if_pos hp]
    by_cases h8 : 8 < s.readings.length
    · rw [if_pos (by omega), if_pos h8]
    · rw [if_neg (by omega), if_neg h8]
      refine Eq.trans (list_loop0 s.readings (okR s) (ref01_Validate_L1 s) (some 0) (some 1) (fun k i x hx => ?_) (fun k => ?_) (by omega)) (by split <;> rfl)
      · have := lt_of_at hx
        show ref01_Validate_B1 s (ref01_Validate_L1 s k) _ = _
        unfold ref01_Validate_B1 okR ref01_Validate_k2
        rw [if_pos (by omega), ix_nat hx, gd_pos (by omega), bnd_eq (rwithin_eq _ _ _)]
        cases h1 : within x.from_ 0 (s.points - 1)
        · rw [if_neg (by simp), if_pos rfl]; rfl
        · rw [if_pos rfl, gd_pos (by omega), bnd_eq (rwithin_eq _ _ _)]
          cases h2 : within x.to_ 0 (s.points - 1)
          · rw [if_neg (by simp), if_pos rfl]; rfl
          · rw [if_pos rfl]
            by_cases h3 : x.from_ = x.to_
            · rw [if_pos h3, if_pos rfl, decide_eq_true h3]; rfl
            · rw [if_neg h3, decide_eq_false h3, bnd_eq (rwithin_eq _ _ _)]
              cases h4 : within x.rise (-1000) 1000
              · rw [if_neg (by simp), if_pos rfl]; rfl
              · rw [if_pos rfl, bnd_eq (rwithin_eq _ _ _)]
                cases h5 : within x.weight 1 3
                · rw [if_pos (by rfl)]; rfl
                · rw [if_neg (by simp), gd_pos (by omega)]; rfl
      · show ref01_Validate_B1 s (ref01_Validate_L1 s k) _ = _
        unfold ref01_Validate_B1
        rw [if_neg (by omega)]; rfl
  · rw [if_neg hp, if_neg hp]
structure SvOk (s : Survey) : Prop where
  p1 : 1 ≤ s.points
  p5 : s.points ≤ 5
  len : s.readings.length ≤ 8
  rd : ∀ r ∈ s.readings, (0 ≤ r.from_ ∧ r.from_ < s.points) ∧ (0 ≤ r.to_ ∧ r.to_ < s.points) ∧ r.from_ ≠ r.to_ ∧ (-1000 ≤ r.rise ∧ r.rise ≤ 1000) ∧ (1 ≤ r.weight ∧ r.weight ≤ 3)
theorem val0 {s : Survey} : validate s = 0 ↔ SvOk s := by
  unfold validate
  constructor
  · intro h
    split at h
    · rename_i hp
      have hw := within_iff.1 hp
      split at h
      · omega
      · split at h
        · rename_i hall
          refine ⟨hw.1, hw.2, by omega, fun r hr => ?_⟩
          have := List.all_eq_true.1 hall r hr
          unfold okR at this
          simp only [Bool.and_eq_true, within_iff, Bool.not_eq_true', decide_eq_false_iff_not] at this
          omega
        · omega
    · omega
  · intro h
    rw [if_pos (within_iff.2 ⟨h.p1, h.p5⟩), if_neg (by have := h.len; omega), if_pos]
    rw [List.all_eq_true]
    intro r hr
    have := h.rd r hr
    unfold okR
    simp only [Bool.and_eq_true, within_iff, Bool.not_eq_true', decide_eq_false_iff_not]
    omega
theorem Long_eq (s : Survey) : law01_Long s = some (decide ((100 : Int) < (s.readings.length : Int))) := rfl
end Go.D1

set_option linter.unusedVariables false
set_option linter.unusedSimpArgs false
namespace Go.D1
open Go.Tb
def gr (l : List Reading) (i : Nat) : Reading := l.getD i ⟨0, 0, 0, 0⟩
theorem gr_at {l : List Reading} {i : Nat} (h : i < l.length) : l[i]? = some (gr l i) := by simp [gr, List.getD, h]
theorem gr_ok {s : Survey} (h : SvOk s) {i : Nat} (hi : i < s.readings.length) : (0 ≤ (gr s.readings i).from_ ∧ (gr s.readings i).from_ < s.points) ∧ (0 ≤ (gr s.readings i).to_ ∧ (gr s.readings i).to_ < s.points) ∧ (gr s.readings i).from_ ≠ (gr s.readings i).to_ ∧ (-1000 ≤ (gr s.readings i).rise ∧ (gr s.readings i).rise ≤ 1000) ∧ (1 ≤ (gr s.readings i).weight ∧ (gr s.readings i).weight ≤ 3) := h.rd _ (List.mem_of_getElem? (gr_at hi))
/-- Joined by the first j readings. -/
inductive Con (s : Survey) (j : Nat) : Int → Int → Prop where
  | refl (a : Int) : Con s j a a
  | edge {i : Nat} : i < j → i < s.readings.length → Con s j (gr s.readings i).from_ (gr s.readings i).to_
  | symm {a b : Int} : Con s j a b → Con s j b a
  | trans {a b c : Int} : Con s j a b → Con s j b c → Con s j a c
theorem Con.mono {s : Survey} {j k : Nat} (hjk : j ≤ k) {a b : Int} (h : Con s j a b) : Con s k a b := by
  induction h with
  | refl a => exact .refl a
  | edge h1 h2 => exact .edge (by omega) h2
  | symm _ ih => exact ih.symm
  | trans _ _ i1 i2 => exact i1.trans i2
/-- A list that gives the smallest point of each point's part. -/
structure Roots (s : Survey) (j : Nat) (f : List Int) : Prop where
  len : f.length = s.points.toNat
  le : ∀ i, i < f.length → 0 ≤ gi f i ∧ gi f i ≤ i
  con : ∀ i, i < f.length → Con s j (gi f i) (i : Int)
  same : ∀ i, i < j → i < s.readings.length → gi f (gr s.readings i).from_.toNat = gi f (gr s.readings i).to_.toNat
theorem Roots.eq_of {s : Survey} (hs : SvOk s) {j : Nat} {f : List Int} (h : Roots s j f) {a b : Int} (hc : Con s j a b) : (0 ≤ a ∧ a < s.points ↔ 0 ≤ b ∧ b < s.points) ∧ (0 ≤ a ∧ a < s.points → gi f a.toNat = gi f b.toNat) := by
  induction hc with
  | refl a => exact ⟨Iff.rfl, fun _ => rfl⟩
  | edge h1 h2 =>
    have := gr_ok hs h2
    exact ⟨by omega, fun _ => h.same _ h1 h2⟩
  | symm _ ih => exact ⟨ih.1.symm, fun hb => (ih.2 (ih.1.2 hb)).symm⟩
  | trans _ _ i1 i2 => exact ⟨i1.1.trans i2.1, fun ha => (i1.2 ha).trans (i2.2 (i1.1.1 ha))⟩
theorem Roots.uniq {s : Survey} (hs : SvOk s) {j : Nat} {f g : List Int} (hf : Roots s j f) (hg : Roots s j g) : f = g := by
  have hp := hs.p1
  refine gi_ext (by rw [hf.len, hg.len]) fun i hi => ?_
  have hfl := hf.len
  have hgl := hg.len
  have key : ∀ {f g : List Int}, Roots s j f → Roots s j g → ∀ i, i < s.points.toNat → gi g i ≤ gi f i := fun {f g} hf hg i hi => by
    have h1 := hf.le i (by rw [hf.len]; exact hi)
    have h2 := (hg.eq_of hs (hf.con i (by rw [hf.len]; exact hi))).2 (by omega)
    have h3 := hg.le (gi f i).toNat (by rw [hg.len]; omega)
    rw [show ((i : Int)).toNat = i by omega] at h2
    omega
  have := key hf hg i (by omega)
  have := key hg hf i (by omega)
  omega
def relab (f : List Int) (a b : Int) : List Int := f.map fun x => if x = max (gi f a.toNat) (gi f b.toNat) then min (gi f a.toNat) (gi f b.toNat) else x
theorem relab_len (f : List Int) (a b : Int) : (relab f a b).length = f.length := by unfold relab; simp
theorem relab_gi {f : List Int} {a b : Int} {i : Nat} (hi : i < f.length) : gi (relab f a b) i = if gi f i = max (gi f a.toNat) (gi f b.toNat) then min (gi f a.toNat) (gi f b.toNat) else gi f i := by
  apply gi_of
  unfold relab
  rw [List.getElem?_map, gi_at hi]; rfl
theorem join_eq {f : List Int} {a b : Int} (hf : f.length ≤ 1000) (ha : 0 ≤ a ∧ a < (f.length : Int)) (hb : 0 ≤ b ∧ b < (f.length : Int)) : level_forest_1 f a b = some (!decide (gi f a.toNat = gi f b.toNat), relab f a b) := by
  have hA : f[a.toNat]? = some (gi f a.toNat) := gi_at (by omega)
  have hB : f[b.toNat]? = some (gi f b.toNat) := gi_at (by omega)
  unfold level_forest_1
  rw [ix_eq ha.1 hA, ix_eq hb.1 hB, ix_eq ha.1 hA, ix_eq hb.1 hB]
  refine Eq.trans (for0 f.length (fun i => (relab f a b).take i ++ f.drop i) (fun k s i => level_forest_1_L1 f (gi f a.toNat) (gi f b.toNat) (gi f a.toNat) (gi f b.toNat) k i s) (some (!decide (gi f a.toNat = gi f b.toNat), relab f a b)) (by simp) (fun k i hi => ?_) (fun k => ?_) (by omega)) rfl
  · show level_forest_1_B1 f _ _ _ _ (level_forest_1_L1 f _ _ _ _ k) _ _ = _
    have hl := relab_len f a b
    have hx : ((relab f a b).take i ++ f.drop i)[i]? = some (gi f i) := by
      rw [List.getElem?_append_right (by rw [List.length_take]; omega), List.length_take, hl, List.getElem?_drop, show i + (i - min i f.length) = i by omega]
      exact gi_at hi
    have hnext : (relab f a b).take (i + 1) ++ f.drop (i + 1) = ((relab f a b).take i ++ f.drop i).set i (gi (relab f a b) i) := by
      rw [List.set_append_right _ _ (by rw [List.length_take]; omega), List.length_take, hl, show i - min i f.length = 0 by omega, List.drop_eq_getElem_cons hi, List.set_cons_zero, List.take_add_one, gi_at (by omega)]
      simp
    unfold level_forest_1_B1 level_forest_1_k2
    rw [if_pos (by omega), ix_nat hx]
    by_cases hm : gi f i = max (gi f a.toNat) (gi f b.toNat)
    · rw [if_pos hm, ix_nat hx, gd_pos (by omega), hnext, relab_gi hi, if_pos hm]; rfl
    · rw [if_neg hm, gd_pos (by omega), hnext, relab_gi hi, if_neg hm]
      have e : ((relab f a b).take i ++ f.drop i).set i (gi f i) = (relab f a b).take i ++ f.drop i := by
        apply List.ext_getElem?
        intro q
        rw [List.getElem?_set]
        by_cases hq : i = q
        · subst hq; rw [if_pos rfl, if_pos (lt_of_at hx), hx]
        · rw [if_neg hq]
      rw [e]; rfl
  · show level_forest_1_B1 f _ _ _ _ (level_forest_1_L1 f _ _ _ _ k) _ _ = _
    unfold level_forest_1_B1 level_forest_1_k1
    have hl := relab_len f a b
    rw [if_neg (by omega), List.drop_of_length_le (Nat.le_refl _), List.append_nil, List.take_of_length_le (by omega)]
    congr 3
    exact decide_eq_decide.2 (by omega)
def iota (n : Nat) : List Int := (List.range n).map fun (i : Nat) => (i : Int)
theorem iota_gi {n i : Nat} (h : i < n) : gi (iota n) i = i := by
  apply gi_of
  unfold iota
  rw [List.getElem?_map, List.getElem?_range h]; rfl
theorem iota_len (n : Nat) : (iota n).length = n := by unfold iota; simp
theorem iota_succ (n : Nat) : iota (n + 1) = iota n ++ [(n : Int)] := by unfold iota; rw [List.range_succ, List.map_append]; rfl
def firsts (s : Survey) : Nat → List Int
  | 0 => iota s.points.toNat
  | j + 1 => relab (firsts s j) (gr s.readings j).from_ (gr s.readings j).to_
theorem firsts_ok {s : Survey} (hs : SvOk s) : ∀ j, j ≤ s.readings.length → Roots s j (firsts s j)
  | 0, _ => {
    len := iota_len _
    le := fun i hi => by
      simp only [firsts] at hi ⊢
      rw [iota_len] at hi
      rw [iota_gi hi]; omega
    con := fun i hi => by
      simp only [firsts] at hi ⊢
      rw [iota_len] at hi
      rw [iota_gi hi]; exact .refl _
    same := fun i hi => by omega }
  | j + 1, hj => by
    have ih := firsts_ok hs j (by omega)
    have hr := gr_ok hs (i := j) (by omega)
    have hl := ih.len
    have hp := hs.p1
    have la := ih.le (gr s.readings j).from_.toNat (by omega)
    have lb := ih.le (gr s.readings j).to_.toNat (by omega)
    have ca := (ih.con (gr s.readings j).from_.toNat (by omega)).mono (Nat.le_succ j)
    have cb := (ih.con (gr s.readings j).to_.toNat (by omega)).mono (Nat.le_succ j)
    rw [show (((gr s.readings j).from_.toNat : Nat) : Int) = (gr s.readings j).from_ by omega] at ca
    rw [show (((gr s.readings j).to_.toNat : Nat) : Int) = (gr s.readings j).to_ by omega] at cb
    have cab : Con s (j + 1) (gi (firsts s j) (gr s.readings j).from_.toNat) (gi (firsts s j) (gr s.readings j).to_.toNat) := ca.trans ((Con.edge (Nat.lt_succ_self j) (by omega)).trans cb.symm)
    have hg : ∀ i, i < (firsts s j).length → gi (firsts s (j + 1)) i = if gi (firsts s j) i = max (gi (firsts s j) (gr s.readings j).from_.toNat) (gi (firsts s j) (gr s.readings j).to_.toNat) then min (gi (firsts s j) (gr s.readings j).from_.toNat) (gi (firsts s j) (gr s.readings j).to_.toNat) else gi (firsts s j) i := fun i hi => relab_gi hi
    generalize hA : gi (firsts s j) (gr s.readings j).from_.toNat = A at *
    generalize hB : gi (firsts s j) (gr s.readings j).to_.toNat = B at *
    have hl' : (firsts s (j + 1)).length = (firsts s j).length := relab_len _ _ _
    refine ⟨by rw [hl', hl], fun i hi => ?_, fun i hi => ?_, fun i hi hi2 => ?_⟩
    · rw [hl'] at hi
      have := ih.le i hi
      rw [hg i hi]
      split <;> omega
    · rw [hl'] at hi
      rw [hg i hi]
      have hc := (ih.con i hi).mono (Nat.le_succ j)
      split
      · rename_i he
        rw [he] at hc
        have cm : Con s (j + 1) (min A B) (max A B) := by
          rcases Int.le_total A B with h | h
          · rw [show min A B = A by omega, show max A B = B by omega]; exact cab
          · rw [show min A B = B by omega, show max A B = A by omega]; exact cab.symm
        exact cm.trans hc
      · exact hc
    · have hri := gr_ok hs hi2
      rw [hg _ (by omega), hg _ (by omega)]
      by_cases e : i = j
      · subst e
        rw [hA, hB]
        split <;> split <;> omega
      · rw [ih.same i (by omega) hi2]
def treeL (s : Survey) : Nat → List Int
  | 0 => []
  | j + 1 => treeL s j ++ (if gi (firsts s j) (gr s.readings j).from_.toNat = gi (firsts s j) (gr s.readings j).to_.toNat then [] else [(j : Int)])
theorem treeL_len (s : Survey) : ∀ j, (treeL s j).length ≤ j
  | 0 => Nat.le_refl _
  | j + 1 => by
    have := treeL_len s j
    simp only [treeL]
    split <;> simp <;> omega
theorem forest_eq {s : Survey} (hs : SvOk s) : level_forest s = some (firsts s s.readings.length, treeL s s.readings.length) := by
  have hp := hs.p1
  have hp5 := hs.p5
  have h8 := hs.len
  unfold level_forest
  refine for0 s.points.toNat iota (fun k l i => level_forest_L2 s k i l) _ rfl (fun k i hi => ?_) (fun k => ?_) (by omega)
  · show level_forest_B2 s (level_forest_L2 s k) _ _ = _
    unfold level_forest_B2
    have := iota_len i
    rw [if_pos (by omega), gd_pos (by rw [this]; simp; omega), gd_pos (by omega), iota_succ]; rfl
  · show level_forest_B2 s (level_forest_L2 s k) _ _ = _
    unfold level_forest_B2 level_forest_k3
    rw [if_neg (by omega)]
    refine for0 s.readings.length (fun i => (treeL s i, firsts s i)) (fun k l i => level_forest_L1 s k i l.1 l.2) _ (s0 := ([], iota s.points.toNat)) rfl (fun k i hi => ?_) (fun k => ?_) (by omega)
    · show level_forest_B1 s (level_forest_L1 s k) (i : Int) (treeL s i) (firsts s i) = _
      have hF := firsts_ok hs i (by omega)
      have hl := hF.len
      have hr := gr_ok hs hi
      have ht := treeL_len s i
      unfold level_forest_B1 level_forest_k2
      rw [if_pos (by omega), ix_nat (gr_at hi), bnd_eq (join_eq (by omega) (by omega) (by omega))]
      simp only [treeL, firsts]
      by_cases he : gi (firsts s i) (gr s.readings i).from_.toNat = gi (firsts s i) (gr s.readings i).to_.toNat
      · rw [if_neg (by simp [he]), gd_pos (by omega), if_pos he, List.append_nil]; rfl
      · rw [if_pos (by simp [he]), gd_pos (by simp; omega), gd_pos (by omega), if_neg he]; rfl
    · show level_forest_B1 s (level_forest_L1 s k) _ _ _ = _
      unfold level_forest_B1
      rw [if_neg (by omega)]; rfl
/-- What is kept while points are told smaller ones. -/
structure Pre (s : Survey) (j : Nat) (f : List Int) : Prop where
  len : f.length = s.points.toNat
  le : ∀ i, i < f.length → 0 ≤ gi f i ∧ gi f i ≤ i
  con : ∀ i, i < f.length → Con s j (gi f i) (i : Int)
def tot : List Int → Nat
  | [] => 0
  | x :: r => x.toNat + tot r
theorem tot_set : ∀ {l : List Int} {i : Nat} {x : Int}, i < l.length → tot (l.set i x) + (gi l i).toNat = tot l + x.toNat
  | [], i, x, h => by simp at h
  | y :: r, 0, x, h => by simp [tot, gi]; omega
  | y :: r, i + 1, x, h => by
    have := tot_set (l := r) (i := i) (x := x) (by simpa using h)
    have e : gi (y :: r) (i + 1) = gi r i := by simp [gi]
    simp only [List.set_cons_succ, tot, e]; omega
theorem tot_le {B : Nat} : ∀ {l : List Int}, (∀ x ∈ l, x.toNat ≤ B) → tot l ≤ B * l.length
  | [], _ => Nat.le_refl _
  | x :: r, h => by
    have := tot_le (l := r) (fun y hy => h y (List.mem_cons_of_mem _ hy))
    have := h x (List.mem_cons_self ..)
    simp only [tot, List.length_cons, Nat.mul_succ]; omega
/-- One step: two points are told the smaller number. -/
def step (f : List Int) (a b : Nat) : List Int := (f.set a (min (gi f a) (gi f b))).set b (min (gi f a) (gi f b))
theorem step_len (f : List Int) (a b : Nat) : (step f a b).length = f.length := by unfold step; simp
theorem step_gi {f : List Int} {a b : Nat} (ha : a < f.length) (hb : b < f.length) (i : Nat) : gi (step f a b) i = if i = a ∨ i = b then min (gi f a) (gi f b) else gi f i := by
  unfold step
  rw [gi_set, gi_set]
  simp only [List.length_set]
  by_cases h1 : b = i
  · subst h1; rw [if_pos ⟨rfl, hb⟩, if_pos (.inr rfl)]
  · rw [if_neg (fun h => h1 h.1)]
    by_cases h2 : a = i
    · subst h2; rw [if_pos ⟨rfl, ha⟩, if_pos (.inl rfl)]
    · rw [if_neg (fun h => h2 h.1), if_neg (by omega)]
theorem step_pre {s : Survey} (hs : SvOk s) {j : Nat} {f : List Int} (h : Pre s j f) {i : Nat} (hi : i < j) (hi2 : i < s.readings.length) (hne : gi f (gr s.readings i).from_.toNat ≠ gi f (gr s.readings i).to_.toNat) :
    Pre s j (step f (gr s.readings i).from_.toNat (gr s.readings i).to_.toNat) ∧ tot (step f (gr s.readings i).from_.toNat (gr s.readings i).to_.toNat) < tot f := by
  have hr := gr_ok hs hi2
  have hl := h.len
  have ha : (gr s.readings i).from_.toNat < f.length := by omega
  have hb : (gr s.readings i).to_.toNat < f.length := by omega
  have hab : (gr s.readings i).from_.toNat ≠ (gr s.readings i).to_.toNat := by omega
  have ca := h.con _ ha
  have cb := h.con _ hb
  rw [show (((gr s.readings i).from_.toNat : Nat) : Int) = (gr s.readings i).from_ by omega] at ca
  rw [show (((gr s.readings i).to_.toNat : Nat) : Int) = (gr s.readings i).to_ by omega] at cb
  have ce : Con s j (gr s.readings i).from_ (gr s.readings i).to_ := .edge hi hi2
  have la := h.le _ ha
  have lb := h.le _ hb
  constructor
  · refine ⟨by rw [step_len, hl], fun q hq => ?_, fun q hq => ?_⟩
    · rw [step_len] at hq
      have := h.le q hq
      rw [step_gi ha hb]
      split
      · rename_i e
        rcases e with e | e <;> subst e <;> omega
      · exact this
    · rw [step_len] at hq
      rw [step_gi ha hb]
      split
      · rename_i e
        have cm : Con s j (min (gi f (gr s.readings i).from_.toNat) (gi f (gr s.readings i).to_.toNat)) (gr s.readings i).from_ := by
          rcases Int.le_total (gi f (gr s.readings i).from_.toNat) (gi f (gr s.readings i).to_.toNat) with h | h
          · rw [show min (gi f (gr s.readings i).from_.toNat) (gi f (gr s.readings i).to_.toNat) = gi f (gr s.readings i).from_.toNat by omega]; exact ca
          · rw [show min (gi f (gr s.readings i).from_.toNat) (gi f (gr s.readings i).to_.toNat) = gi f (gr s.readings i).to_.toNat by omega]; exact cb.trans ce.symm
        rcases e with e | e
        · rw [e, show (((gr s.readings i).from_.toNat : Nat) : Int) = (gr s.readings i).from_ by omega]; exact cm
        · rw [e, show (((gr s.readings i).to_.toNat : Nat) : Int) = (gr s.readings i).to_ by omega]; exact cm.trans ce
      · exact h.con q hq
  · have t1 := tot_set (l := f) (x := min (gi f (gr s.readings i).from_.toNat) (gi f (gr s.readings i).to_.toNat)) ha
    have t2 := tot_set (l := f.set (gr s.readings i).from_.toNat (min (gi f (gr s.readings i).from_.toNat) (gi f (gr s.readings i).to_.toNat))) (x := min (gi f (gr s.readings i).from_.toNat) (gi f (gr s.readings i).to_.toNat)) (i := (gr s.readings i).to_.toNat) (by rw [List.length_set]; exact hb)
    rw [gi_set, if_neg (fun h => hab h.1)] at t2
    unfold step
    omega
/-- One round of the document's search. -/
theorem round_eq {s : Survey} (hs : SvOk s) {j : Nat} (hj : j ≤ s.readings.length) (rec2 : Bool → List Int → Option (List Int)) : ∀ (d i k : Nat) (f : List Int) (b : Bool), j = i + d → d < k → Pre s j f → (b = false → ∀ q, q < i → gi f (gr s.readings q).from_.toNat = gi f (gr s.readings q).to_.toNat) →
    ∃ f' b', ref01_roots_L1 s (j : Int) rec2 k b (i : Int) f = rec2 b' f' ∧ Pre s j f' ∧ tot f' ≤ tot f ∧ (b = true → b' = true) ∧ (b = false → b' = true → tot f' < tot f) ∧ (b' = false → Roots s j f')
  | 0, i, k + 1, f, b, hd, hk, hP, hb => by
    have h8 := hs.len
    refine ⟨f, b, ?_, hP, Nat.le_refl _, id, (fun h1 h2 => by rw [h1] at h2; cases h2), fun h => ⟨hP.len, hP.le, hP.con, fun q hq hq2 => hb h q (by omega)⟩⟩
    show ref01_roots_B1 s (j : Int) rec2 (ref01_roots_L1 s (j : Int) rec2 k) b _ f = _
    unfold ref01_roots_B1
    rw [if_neg (by omega)]
  | d + 1, i, k + 1, f, b, hd, hk, hP, hb => by
    have h8 := hs.len
    have hi2 : i < s.readings.length := by omega
    have hr := gr_ok hs hi2
    have hl := hP.len
    have hA : f[(gr s.readings i).from_.toNat]? = some (gi f (gr s.readings i).from_.toNat) := gi_at (by omega)
    have hB : f[(gr s.readings i).to_.toNat]? = some (gi f (gr s.readings i).to_.toNat) := gi_at (by omega)
    have e : ref01_roots_L1 s (j : Int) rec2 (k + 1) b (i : Int) f = ref01_roots_B1 s (j : Int) rec2 (ref01_roots_L1 s (j : Int) rec2 k) b (i : Int) f := rfl
    rw [e]
    unfold ref01_roots_B1 ref01_roots_k2
    rw [if_pos (by omega), ix_nat (gr_at hi2), ix_nat (gr_at hi2), ix_eq hr.1.1 hA, ix_eq hr.2.1.1 hB]
    by_cases he : gi f (gr s.readings i).from_.toNat = gi f (gr s.readings i).to_.toNat
    · rw [if_pos he, gd_pos (by omega)]
      exact round_eq hs hj rec2 d (i + 1) k f b (by omega) (by omega) hP (fun h q hq => by
        by_cases e : q = i
        · subst e; exact he
        · exact hb h q (by omega))
    · rw [if_neg he, ix_eq hr.1.1 hA, ix_eq hr.2.1.1 hB, ix_eq hr.1.1 hA]
      have ⟨s1, s2⟩ := step_pre hs hP (i := i) (by omega) hi2 he
      have hX : (f.set (gr s.readings i).from_.toNat (min (gi f (gr s.readings i).from_.toNat) (gi f (gr s.readings i).to_.toNat)))[(gr s.readings i).to_.toNat]? = some (gi (f.set (gr s.readings i).from_.toNat (min (gi f (gr s.readings i).from_.toNat) (gi f (gr s.readings i).to_.toNat))) (gr s.readings i).to_.toNat) := gi_at (by rw [List.length_set]; omega)
      rw [ix_eq hr.2.1.1 hX, gd_pos (by omega)]
      obtain ⟨f', b', q1, q2, q3, q4, q5, q6⟩ := round_eq hs hj rec2 d (i + 1) k (step f (gr s.readings i).from_.toNat (gr s.readings i).to_.toNat) true (by omega) (by omega) s1 (fun h => by cases h)
      exact ⟨f', b', q1, q2, by omega, fun _ => q4 rfl, fun _ _ => by omega, q6⟩
theorem rounds_eq {s : Survey} (hs : SvOk s) {j : Nat} (hj : j ≤ s.readings.length) : ∀ (q k : Nat) (f : List Int), tot f < q → q < k → Pre s j f → ref01_roots_L2 s (j : Int) k true f = some (firsts s j)
  | 0, k, f, hq, _, _ => by omega
  | q + 1, k + 1, f, hq, hk, hP => by
    have e : ref01_roots_L2 s (j : Int) (k + 1) true f = ref01_roots_B2 s (j : Int) (ref01_roots_L2 s (j : Int) k) true f := rfl
    rw [e]
    unfold ref01_roots_B2
    rw [if_pos rfl]
    obtain ⟨f', b', q1, q2, q3, q4, q5, q6⟩ := round_eq hs hj (ref01_roots_L2 s (j : Int) k) j 0 FU f false (by omega) (by have := FU_pos; have := hs.len; omega) hP (fun _ q hq => by omega)
    have q1' : ref01_roots_L1 s (j : Int) (ref01_roots_L2 s (j : Int) k) FU false 0 f = ref01_roots_L2 s (j : Int) k b' f' := q1
    rw [q1']
    cases b' with
    | true => exact rounds_eq hs hj q k f' (by have := q5 rfl rfl; omega) (by omega) q2
    | false =>
      cases k with
      | zero => omega
      | succ k =>
        show ref01_roots_B2 s (j : Int) (ref01_roots_L2 s (j : Int) k) false f' = _
        unfold ref01_roots_B2 ref01_roots_k1
        rw [if_neg (by simp), (q6 rfl).uniq hs (firsts_ok hs j hj)]
theorem roots_eq {s : Survey} (hs : SvOk s) {j : Nat} (hj : j ≤ s.readings.length) : ref01_roots s (j : Int) = some (firsts s j) := by
  have hp := hs.p1
  have hp5 := hs.p5
  have h8 := hs.len
  unfold ref01_roots
  rw [gd_pos (by omega)]
  refine for0 s.points.toNat (fun i => iota i ++ List.replicate (s.points.toNat - i) 0) (fun k l i => ref01_roots_L3 s (j : Int) k i l) _ (by simp [iota]) (fun k i hi => ?_) (fun k => ?_) (by omega)
  · show ref01_roots_B3 s (j : Int) (ref01_roots_L3 s (j : Int) k) _ _ = _
    have hil := iota_len i
    have hx : (iota i ++ List.replicate (s.points.toNat - i) 0)[i]? = some 0 := by
      rw [List.getElem?_append_right (by omega), hil, Nat.sub_self, List.getElem?_replicate, if_pos (by omega)]
    have hn : iota (i + 1) ++ List.replicate (s.points.toNat - (i + 1)) 0 = (iota i ++ List.replicate (s.points.toNat - i) 0).set i (i : Int) := by
      rw [List.set_append_right _ _ (by omega), hil, Nat.sub_self, show s.points.toNat - i = (s.points.toNat - (i + 1)) + 1 by omega, List.replicate_succ, List.set_cons_zero, iota_succ]; simp
    unfold ref01_roots_B3
    rw [if_pos (by omega), ix_nat hx, gd_pos (by omega), hn]; rfl
  · show ref01_roots_B3 s (j : Int) (ref01_roots_L3 s (j : Int) k) _ _ = _
    unfold ref01_roots_B3 ref01_roots_k3
    rw [if_neg (by omega), Nat.sub_self, List.replicate_zero, List.append_nil]
    have h0 := firsts_ok hs 0 (by omega)
    have hP : Pre s j (iota s.points.toNat) := ⟨h0.len, h0.le, fun i hi => (h0.con i hi).mono (Nat.zero_le _)⟩
    have ht : tot (iota s.points.toNat) ≤ 5 * (iota s.points.toNat).length := tot_le fun x hx => by
      obtain ⟨q, hq⟩ := List.getElem?_of_mem hx
      have := hP.le q (lt_of_at hq)
      have := hP.len
      have := lt_of_at hq
      rw [gi_of hq] at *
      omega
    rw [iota_len] at ht
    exact rounds_eq hs hj 100 FU _ (by omega) (by have := FU_pos; omega) hP
end Go.D1

set_option linter.unusedVariables false
set_option linter.unusedSimpArgs false
namespace Go.D1
open Go.Tb
def nodesOf (n : Nat) (p : Int → Bool) : List Int := (iota n).filter p
theorem nodesOf_len (n : Nat) (p : Int → Bool) : (nodesOf n p).length ≤ n := by
  have := List.length_filter_le p (iota n)
  rw [iota_len] at this
  exact this
theorem nodesOf_succ (n : Nat) (p : Int → Bool) : nodesOf (n + 1) p = nodesOf n p ++ (if p (n : Int) = true then [(n : Int)] else []) := by
  unfold nodesOf
  rw [iota_succ, List.filter_append]
  congr 1
  by_cases h : p (n : Int) = true
  · rw [if_pos h, List.filter_cons, if_pos h]; rfl
  · rw [if_neg h, List.filter_cons, if_neg h]; rfl
/-- The points of a part. -/
def partOf (f : List Int) (i : Int) : List Int := nodesOf f.length fun k => decide (gi f k.toNat = i)
def isRoot (f : List Int) (i : Int) : Bool := decide (gi f i.toNat = i)
def partsL (f : List Int) (j : Nat) : List (List Int) := (nodesOf j (isRoot f)).map (partOf f)
theorem partsL_succ (f : List Int) (j : Nat) : partsL f (j + 1) = partsL f j ++ (if gi f j = (j : Int) then [partOf f (j : Int)] else []) := by
  unfold partsL
  rw [nodesOf_succ, List.map_append]
  congr 1
  by_cases h : gi f j = (j : Int)
  · rw [if_pos h, if_pos (show isRoot f (j : Int) = true from decide_eq_true h)]; rfl
  · rw [if_neg h, if_neg (by unfold isRoot; simpa using h)]; rfl
theorem partsL_len (f : List Int) (j : Nat) : (partsL f j).length ≤ j := by
  unfold partsL
  rw [List.length_map]
  exact nodesOf_len _ _
def rootsOf (s : Survey) : List Int := firsts s s.readings.length
theorem rootsOf_ok {s : Survey} (hs : SvOk s) : Roots s s.readings.length (rootsOf s) := firsts_ok hs _ (Nat.le_refl _)
def partsR (s : Survey) : List (List Int) := partsL (rootsOf s) s.points.toNat
theorem parts_eq {s : Survey} (hs : SvOk s) : level_parts s = some (partsR s) := by
  have hp := hs.p1
  have hp5 := hs.p5
  have hf := rootsOf_ok hs
  have hfl := hf.len
  unfold level_parts
  rw [bnd_eq (forest_eq hs)]
  show level_parts_L2 (rootsOf s, _) FU 0 [] = _
  refine for0 s.points.toNat (partsL (rootsOf s)) (fun k l i => level_parts_L2 (rootsOf s, treeL s s.readings.length) k i l) _ rfl (fun k i hi => ?_) (fun k => ?_) (by omega)
  · show level_parts_B2 (rootsOf s, treeL s s.readings.length) (level_parts_L2 (rootsOf s, treeL s s.readings.length) k) _ _ = _
    have hx : (rootsOf s)[i]? = some (gi (rootsOf s) i) := gi_at (by omega)
    have hpl := partsL_len (rootsOf s) i
    unfold level_parts_B2 level_parts_k2
    rw [if_pos (by simp only; omega), ix_nat hx, partsL_succ]
    by_cases he : gi (rootsOf s) i = (i : Int)
    · rw [if_pos he, if_pos he]
      refine for0 (rootsOf s).length (fun q => nodesOf q fun k => decide (gi (rootsOf s) k.toNat = (i : Int))) (fun k' l q => level_parts_L1 (rootsOf s, treeL s s.readings.length) (i : Int) (partsL (rootsOf s) i) (level_parts_L2 (rootsOf s, treeL s s.readings.length) k) k' q l) _ rfl (fun k' q hq => ?_) (fun k' => ?_) (by omega)
      · have hll := nodesOf_len q fun k => decide (gi (rootsOf s) k.toNat = (i : Int))
        show level_parts_B1 _ _ _ _ (level_parts_L1 _ _ _ _ k') _ _ = _
        unfold level_parts_B1 level_parts_k4
        rw [if_pos (by simp only; omega), ix_nat (gi_at hq), nodesOf_succ]
        by_cases h2 : gi (rootsOf s) q = (i : Int)
        · rw [if_pos h2, gd_pos (by simp; omega), gd_pos (by omega), if_pos (show decide (gi (rootsOf s) ((q : Int)).toNat = (i : Int)) = true from decide_eq_true h2)]; rfl
        · rw [if_neg h2, gd_pos (by omega), if_neg (show ¬ decide (gi (rootsOf s) ((q : Int)).toNat = (i : Int)) = true by simpa using h2), List.append_nil]; rfl
      · show level_parts_B1 _ _ _ _ (level_parts_L1 _ _ _ _ k') _ _ = _
        unfold level_parts_B1 level_parts_k3 level_parts_k2
        rw [if_neg (by simp only; omega), gd_pos (by omega), gd_pos (by omega)]; rfl
    · rw [if_neg he, if_neg he, gd_pos (by omega), List.append_nil]; rfl
  · show level_parts_B2 (rootsOf s, treeL s s.readings.length) (level_parts_L2 (rootsOf s, treeL s s.readings.length) k) _ _ = _
    unfold level_parts_B2
    rw [if_neg (by simp only; omega)]; rfl
theorem whole_eq {s : Survey} (hs : SvOk s) : ref01_whole s = some (rootsOf s) := by
  unfold ref01_whole
  rw [bnd_eq (roots_eq hs (Nat.le_refl _))]; rfl
end Go.D1
