/- Lemmas and walks that the proof of this claim uses: D2k2, Tb22. -/
import Derived.Test.YtmpmomboclhjoaaTopFlows4
set_option linter.unusedVariables false
set_option linter.unusedSimpArgs false
namespace Go.D2
open Go.Tb Go.Proofs Go.RowKit
theorem Tc53 : callable Try.prog 53 = true := by kernel_rfl
theorem Tc54 : callable Try.prog 54 = true := by kernel_rfl
theorem Tk4 : tyK Try.prog 4 = some (false, 1) := by kernel_rfl
theorem Ts85 : tyS Try.prog 85 = some (4, 1, 1, [.bool false]) := by kernel_rfl
set_option maxRecDepth 20000 in
set_option maxHeartbeats 1000000 in
theorem top_others_ok {a0 : Int} {a1 : List Int} {A_a1 : Option Addr} {c_a1 : Nat} {w : World} {res : (List Int)} (h_a1 : Sl w A_a1 c_a1 1 (a1.map encN)) (F : top_others a0 a1 = some res) : Calls Try.prog 54 #[.int .i64 a0, .slice A_a1 a1.length c_a1] w (fun e w' => ∃ (A1 : Option Addr) (c1 : Nat), e = .returned (.slice A1 res.length c1) ∧ Hp w w' [.own A1 c1 3 1 (List.map encN res)]) := by
  refine calls_of_cw (args := [.int .i64 a0, .slice A_a1 a1.length c_a1]) Try.func54 rfl rfl rfl rfl ?_
  have H := Hp.start w
  have R0 := H.ext
  unfold top_others at F
  refine CW.seq fun K1 hK1 => ?_
  refine CW.region ?_
  refine LW.pure rfl rfl (RV.assign rfl) ?_
  refine LW.nil (hK1 _ _ ?_)
  refine CW.seq fun K2 hK2 => ?_
  obtain ⟨hg1, F⟩ := gd_some F
  refine CW.region ?_
  refine LW.pure rfl rfl (RV.move rfl) ?_
  refine LW.go rfl rfl (OW.makeR (enc := encBl) (false : Bool) Ts85 rfl rfl rfl rfl rfl hg1 (by decide) fun b1 w1 N1 => ?_)
  replace H := H.made' (k := 1) (t := 4) (enc := encBl) (l := (List.replicate (Int.toNat a0) (false : Bool))) N1 N1.blk (fun _ => rfl) rfl (by first | decide | omega | (simp; done) | (simp; omega))
  replace R0 := H.ext
  refine LW.pure rfl rfl (RV.assign rfl) ?_
  refine LW.nil (hK2 _ _ ?_)
  refine CW.seqJ (fun ρ wl1 => (∃ (l3 : List Bool), top_others_k3 a0 l3 = some res ∧ ρ = [(0, .int .i64 a0), (4, .slice none 0 0), (5, .slice (some ⟨b1, 0, none⟩) l3.length (((List.replicate (Int.toNat a0) (false : Bool))).length))] ∧ Hp w wl1 [.own (some ⟨b1, 0, none⟩) (((List.replicate (Int.toNat a0) (false : Bool))).length) 4 1 (List.map encBl l3)])) ?_ ?_
  ·
    rintro _ wl1 ⟨l3, F, rfl, H⟩
    have R0 := H.ext
    unfold top_others_k3 at F
    refine CW.seq fun K3 hK3 => ?_
    refine CW.region ?_
    refine LW.pure rfl rfl (RV.assign rfl) ?_
    refine LW.nil (hK3 _ _ ?_)
    refine CW.seqJ (fun ρ wl2 => (∃ (l1 : List Int) (Al1 : Option Addr) (cl1 : Nat), top_others_k1 l1 = some res ∧ ρ = [(4, .slice none 0 0), (7, .slice Al1 l1.length cl1)] ∧ Hp w wl2 [.own Al1 cl1 3 1 (List.map encN l1)])) ?_ ?_
    ·
      rintro _ wl2 ⟨l1, Al1, cl1, F, rfl, H⟩
      have R0 := H.ext
      unfold top_others_k1 at F
      refine CW.seq fun K4 hK4 => ?_
      refine CW.region ?_
      refine LW.pure rfl rfl (RV.move rfl) ?_
      refine LW.pure rfl rfl (RV.assign rfl) ?_
      refine LW.nil (hK4 _ _ ?_)
      refine CW.ret ?_
      obtain rfl := Option.some.inj F
      refine ⟨_, (ResOK.one rfl), ?_⟩
      exact ⟨Al1, cl1, (by first | rfl | (simp; done) | (simp; omega)), H⟩
    ·
      intro K5 hK5 jK107
      refine CW.seq fun K6 hK6 => ?_
      refine CW.region ?_
      refine LW.pure rfl rfl (RV.assign rfl) ?_
      refine LW.nil (hK6 _ _ ?_)
      refine CW.block ?_
      replace H := H.nilOwn 3 1
      replace R0 := H.ext
      replace H := H.pick (L' := [.own (some ⟨b1, 0, none⟩) (((List.replicate (Int.toNat a0) (false : Bool))).length) 4 1 (List.map encBl l3), .own none 0 3 1 (List.map encN (([] : List Int)))]) [1, 0] (by decide) rfl
      replace R0 := H.ext
      refine CW.loop (fun meas ρ wl3 => ∃ (t8_1 : Int) (l4 : List Int) (Al4 : Option Addr) (cl4 : Nat), top_others_L1 a0 l3 meas t8_1 l4 = some res ∧ ρ = [(0, .int .i64 a0), (4, .slice none 0 0), (5, .slice (some ⟨b1, 0, none⟩) l3.length (((List.replicate (Int.toNat a0) (false : Bool))).length)), (7, .slice Al4 l4.length cl4), (8, .int .i64 t8_1)] ∧ Hp w wl3 [.own (some ⟨b1, 0, none⟩) (((List.replicate (Int.toNat a0) (false : Bool))).length) 4 1 (List.map encBl l3), .own Al4 cl4 3 1 (List.map encN l4)]) FU ⟨_, ?_, ((0 : Int)), (([] : List Int)), none, 0, F, rfl, H⟩ ?_
      · exact ⟨rfl, rfl, (look_slice rfl (by first | rfl | (simp; done) | omega | (simp; omega))), (look_slice rfl (by first | rfl | (simp; done) | omega | (simp; omega))), rfl, trivial⟩
      rintro mk1 _ wl3 ⟨t8_1, l4, Al4, cl4, F, rfl, H⟩
      have R0 := H.ext
      replace F := top_others_L1_s F
      obtain ⟨mk1, rfl, F⟩ := F
      generalize hrec1 : top_others_L1 a0 l3 mk1 = rec1 at F
      unfold top_others_B1 at F
      refine CW.seq fun K7 hK7 => ?_
      refine CW.seq fun K8 hK8 => ?_
      refine CW.region ?_
      refine LW.pure rfl rfl (RV.move rfl) ?_
      refine LW.pure rfl rfl (RV.move rfl) ?_
      refine LW.pure rfl rfl (RV.lss rfl rfl) ?_
      refine LW.nil (hK8 _ _ ?_)
      by_cases hp1 : t8_1 < a0
      ·
        replace F := ite_y hp1 F
        have hq1 := dec_t hp1
        refine CW.condT rfl hq1 ?_
        refine CW.skip (hK7 _ _ ?_)
        refine CW.seqJ (fun ρ wl4 => (∃ (l2 : List Int) (Al2 : Option Addr) (cl2 : Nat), top_others_k2 t8_1 rec1 l2 = some res ∧ ρ = [(0, .int .i64 a0), (4, .slice none 0 0), (5, .slice (some ⟨b1, 0, none⟩) l3.length (((List.replicate (Int.toNat a0) (false : Bool))).length)), (7, .slice Al2 l2.length cl2), (8, .int .i64 t8_1)] ∧ Hp w wl4 [.own (some ⟨b1, 0, none⟩) (((List.replicate (Int.toNat a0) (false : Bool))).length) 4 1 (List.map encBl l3), .own Al2 cl2 3 1 (List.map encN l2)])) ?_ ?_
        ·
          rintro _ wl4 ⟨l2, Al2, cl2, F, rfl, H⟩
          have R0 := H.ext
          unfold top_others_k2 at F
          obtain ⟨hg2, F⟩ := gd_some F
          refine CW.region ?_
          refine LW.pure rfl rfl (RV.move rfl) ?_
          refine LW.pure rfl rfl (RV.add rfl rfl hg2) ?_
          refine LW.pure rfl rfl (RV.assign rfl) ?_
          refine LW.nil ?_
          subst hrec1
          refine ⟨mk1, Nat.lt_succ_self _, _, ?_, (t8_1 + 1), l2, Al2, cl2, F, rfl, H⟩
          exact ⟨rfl, rfl, (look_slice rfl (by first | rfl | (simp; done) | omega | (simp; omega))), (look_slice rfl (by first | rfl | (simp; done) | omega | (simp; omega))), rfl, trivial⟩
        ·
          intro K9 hK9 jK122
          refine CW.block ?_
          refine CW.seq fun K10 hK10 => ?_
          obtain ⟨x1, hbx1, hx1, F⟩ := ix_some F
          refine CW.region ?_
          refine LW.pure rfl rfl (RV.move rfl) ?_
          refine LW.pure rfl rfl (RV.move rfl) ?_
          refine LW.pure rfl rfl (RV.indexAddr Ts85 rfl rfl hbx1 ⟨_, rfl⟩) ?_
          refine LW.pure rfl rfl (RV.load1 Tk4 rfl ((H.own 0 rfl).sl.at_ hx1) rfl) ?_
          refine LW.pure rfl rfl (RV.not rfl) ?_
          refine LW.nil (hK10 _ _ ?_)
          by_cases hp2 : x1 = true
          ·
            replace F := ite_y hp2 F
            have hq2 : x1 = true := hp2
            refine CW.condF rfl (not_f hq2) ?_
            refine CW.skip (jK122 _ _ ⟨_, ?_, ⟨l4, Al4, cl4, F, rfl, H⟩⟩)
            exact ⟨rfl, rfl, (look_slice rfl (by first | rfl | (simp; done) | omega | (simp; omega))), (look_slice rfl (by first | rfl | (simp; done) | omega | (simp; omega))), rfl, trivial⟩
          ·
            replace F := ite_n hp2 F
            have hq2 : x1 = false := raw_f hp2
            refine CW.condT rfl (not_t hq2) ?_
            obtain ⟨hg3, F⟩ := gd_some F
            refine CW.region ?_
            refine LW.pure rfl rfl (RV.move rfl) ?_
            refine LW.pure rfl rfl (RV.move rfl) ?_
            refine LW.go rfl rfl (OW.buildSlice (e := 3) (vs := [.int .i64 t8_1]) (cs := [.int .i64 t8_1]) rfl (fun _ => by kernel_rfl) fun b2 w2 N2 => ?_)
            replace H := H.made' (k := 1) (t := 3) (enc := encN) (l := ([t8_1] : List Int)) N2 N2.blk (fun _ => rfl) rfl (by first | decide | omega | (simp; done) | (simp; omega))
            replace R0 := H.ext
            refine LW.go rfl rfl (OW.appendG (enc := encN) (l := l4) (xs := ([t8_1] : List Int)) Ts30 rfl (look_slice rfl (by first | rfl | (simp; done) | (simp; omega))) (H.own 2 rfl) (H.own 0 rfl).sl (fun _ => rfl) rfl rfl hg3 (by decide) fun A2 c2 w3 O1 M1 D1 => ?_)
            replace H : Hp w w3 [.own (some ⟨b2, 0, none⟩) ((([t8_1] : List Int)).length) 3 1 (List.map encN (([t8_1] : List Int))), .own (some ⟨b1, 0, none⟩) (((List.replicate (Int.toNat a0) (false : Bool))).length) 4 1 (List.map encBl l3), .own A2 c2 3 1 (List.map encN ((l4 ++ ([t8_1] : List Int))))] := H.mod 2 rfl M1 O1 D1
            replace R0 := H.ext
            refine LW.pure rfl rfl (RV.assign rfl) ?_
            replace H := H.pick (L' := [.own (some ⟨b1, 0, none⟩) (((List.replicate (Int.toNat a0) (false : Bool))).length) 4 1 (List.map encBl l3), .own A2 c2 3 1 (List.map encN ((l4 ++ ([t8_1] : List Int))))]) [1, 2] (by decide) rfl
            replace R0 := H.ext
            refine LW.nil (jK122 _ _ ⟨_, ?_, ⟨((l4 ++ ([t8_1] : List Int))), A2, c2, F, rfl, H⟩⟩)
            exact ⟨rfl, rfl, (look_slice rfl (by first | rfl | (simp; done) | omega | (simp; omega))), (look_slice rfl (by first | rfl | (simp; done) | omega | (simp; omega))), rfl, trivial⟩
      ·
        replace F := ite_n hp1 F
        have hq1 := dec_f hp1
        refine CW.condF rfl hq1 ?_
        replace H := H.pick (L' := [.own Al4 cl4 3 1 (List.map encN l4)]) [1] (by decide) rfl
        replace R0 := H.ext
        refine CW.exit (jK107 _ _ ⟨_, ?_, ⟨l4, Al4, cl4, F, rfl, H⟩⟩)
        exact ⟨rfl, (look_slice rfl (by first | rfl | (simp; done) | omega | (simp; omega))), trivial⟩
  ·
    intro K11 hK11 jK124
    refine CW.seq fun K12 hK12 => ?_
    refine CW.region ?_
    refine LW.pure rfl rfl (RV.assign rfl) ?_
    refine LW.nil (hK12 _ _ ?_)
    refine CW.block ?_
    refine CW.loop (fun meas ρ wl5 => ∃ (t6_1 : Int) (l6 : List Bool), top_others_L2 a0 a1 meas t6_1 l6 = some res ∧ ρ = [(0, .int .i64 a0), (1, .slice A_a1 a1.length c_a1), (4, .slice none 0 0), (5, .slice (some ⟨b1, 0, none⟩) l6.length (((List.replicate (Int.toNat a0) (false : Bool))).length)), (6, .int .i64 t6_1)] ∧ Hp w wl5 [.own (some ⟨b1, 0, none⟩) (((List.replicate (Int.toNat a0) (false : Bool))).length) 4 1 (List.map encBl l6)]) FU ⟨_, ?_, ((0 : Int)), ((List.replicate (Int.toNat a0) (false : Bool))), F, rfl, H⟩ ?_
    · exact ⟨rfl, rfl, rfl, (look_slice rfl (by first | rfl | (simp; done) | omega | (simp; omega))), rfl, trivial⟩
    rintro mk2 _ wl5 ⟨t6_1, l6, F, rfl, H⟩
    have R0 := H.ext
    replace F := top_others_L2_s F
    obtain ⟨mk2, rfl, F⟩ := F
    generalize hrec2 : top_others_L2 a0 a1 mk2 = rec2 at F
    unfold top_others_B2 at F
    refine CW.seq fun K13 hK13 => ?_
    refine CW.seq fun K14 hK14 => ?_
    refine CW.region ?_
    refine LW.pure rfl rfl (RV.move rfl) ?_
    refine LW.pure rfl rfl (RV.move rfl) ?_
    refine LW.pure rfl rfl (RV.len Ts30 rfl) ?_
    refine LW.pure rfl rfl (RV.lss rfl rfl) ?_
    refine LW.nil (hK14 _ _ ?_)
    by_cases hp3 : t6_1 < ((a1.length : Int))
    ·
      replace F := ite_y hp3 F
      have hq3 := dec_t hp3
      refine CW.condT rfl hq3 ?_
      refine CW.skip (hK13 _ _ ?_)
      refine CW.seqJ (fun ρ wl6 => (∃ (l5 : List Bool), top_others_k4 t6_1 rec2 l5 = some res ∧ ρ = [(0, .int .i64 a0), (1, .slice A_a1 a1.length c_a1), (4, .slice none 0 0), (5, .slice (some ⟨b1, 0, none⟩) l5.length (((List.replicate (Int.toNat a0) (false : Bool))).length)), (6, .int .i64 t6_1)] ∧ Hp w wl6 [.own (some ⟨b1, 0, none⟩) (((List.replicate (Int.toNat a0) (false : Bool))).length) 4 1 (List.map encBl l5)])) ?_ ?_
      ·
        rintro _ wl6 ⟨l5, F, rfl, H⟩
        have R0 := H.ext
        unfold top_others_k4 at F
        obtain ⟨hg4, F⟩ := gd_some F
        refine CW.region ?_
        refine LW.pure rfl rfl (RV.move rfl) ?_
        refine LW.pure rfl rfl (RV.add rfl rfl hg4) ?_
        refine LW.pure rfl rfl (RV.assign rfl) ?_
        refine LW.nil ?_
        subst hrec2
        refine ⟨mk2, Nat.lt_succ_self _, _, ?_, (t6_1 + 1), l5, F, rfl, H⟩
        exact ⟨rfl, rfl, rfl, (look_slice rfl (by first | rfl | (simp; done) | omega | (simp; omega))), rfl, trivial⟩
      ·
        intro K15 hK15 jK139
        refine CW.block ?_
        refine CW.seqJ (fun ρ wl7 => (∃ (t29_1 : Bool), top_others_k5 a1 t6_1 l6 rec2 t29_1 = some res ∧ ρ = [(0, .int .i64 a0), (1, .slice A_a1 a1.length c_a1), (4, .slice none 0 0), (5, .slice (some ⟨b1, 0, none⟩) l6.length (((List.replicate (Int.toNat a0) (false : Bool))).length)), (6, .int .i64 t6_1), (29, .bool t29_1)] ∧ Hp w wl7 [.own (some ⟨b1, 0, none⟩) (((List.replicate (Int.toNat a0) (false : Bool))).length) 4 1 (List.map encBl l6)])) ?_ ?_
        ·
          rintro _ wl7 ⟨t29_1, F, rfl, H⟩
          have R0 := H.ext
          unfold top_others_k5 at F
          by_cases hp4 : t29_1 = true
          ·
            replace F := ite_y hp4 F
            have hq4 : t29_1 = true := hp4
            refine CW.condT rfl hq4 ?_
            obtain ⟨x2, hbx2, hx2, F⟩ := ix_some F
            obtain ⟨x3, hbx3, hx3, F⟩ := ix_some F
            refine CW.region ?_
            refine LW.pure rfl rfl (RV.move rfl) ?_
            refine LW.pure rfl rfl (RV.move rfl) ?_
            refine LW.pure rfl rfl (RV.move rfl) ?_
            refine LW.pure rfl rfl (RV.indexAddr Ts30 rfl rfl hbx2 (h_a1.addr_ hx2)) ?_
            refine LW.pure rfl rfl (RV.load1 Tk3 rfl ((h_a1.at_ hx2).ext R0) rfl) ?_
            refine LW.pure rfl rfl (RV.indexAddr Ts85 rfl rfl hbx3 ⟨_, rfl⟩) ?_
            refine LW.go rfl rfl (OW.storeO (enc := encBl) (vs := [.bool true]) 0 (true) Tk4 rfl rfl (H.own 0 rfl) (fun _ => rfl) rfl hx3 rfl rfl (by decide) rfl rfl fun w4 M2 O2 => ?_)
            replace H : Hp w w4 [.own (some ⟨b1, 0, none⟩) (((List.replicate (Int.toNat a0) (false : Bool))).length) 4 1 (List.map encBl ((l6.set (Int.toNat x2) true)))] := H.mod 0 rfl M2 O2 (.inl rfl)
            replace R0 := H.ext
            refine LW.nil (jK139 _ _ ⟨_, ?_, ⟨((l6.set (Int.toNat x2) true)), F, rfl, H⟩⟩)
            exact ⟨rfl, rfl, rfl, (look_slice rfl (by first | rfl | (simp; done) | omega | (simp; omega))), rfl, trivial⟩
          ·
            replace F := ite_n hp4 F
            have hq4 : t29_1 = false := raw_f hp4
            refine CW.condF rfl hq4 ?_
            refine CW.skip (jK139 _ _ ⟨_, ?_, ⟨l6, F, rfl, H⟩⟩)
            exact ⟨rfl, rfl, rfl, (look_slice rfl (by first | rfl | (simp; done) | omega | (simp; omega))), rfl, trivial⟩
        ·
          intro K16 hK16 jK140
          obtain ⟨x4, hbx4, hx4, F⟩ := ix_some F
          by_cases hp5 : (0 : Int) ≤ x4
          ·
            replace F := ite_y hp5 F
            have hq5 := dec_t hp5
            obtain ⟨x5, hbx5, hx5, F⟩ := ix_some F
            refine CW.region ?_
            refine LW.pure rfl rfl (RV.move rfl) ?_
            refine LW.pure rfl rfl (RV.move rfl) ?_
            refine LW.pure rfl rfl (RV.indexAddr Ts30 rfl rfl hbx4 (h_a1.addr_ hx4)) ?_
            refine LW.pure rfl rfl (RV.load1 Tk3 rfl ((h_a1.at_ hx4).ext R0) rfl) ?_
            refine LW.pure rfl rfl (RV.geq rfl rfl) ?_
            refine LW.pure rfl rfl (RV.move rfl) ?_
            refine LW.pureYB rfl rfl rfl rfl hq5 (RV.move rfl) ?_
            refine LW.pureYB rfl rfl rfl rfl hq5 (RV.move rfl) ?_
            refine LW.pureYB rfl rfl rfl rfl hq5 (RV.indexAddr Ts30 rfl rfl hbx5 (h_a1.addr_ hx5)) ?_
            refine LW.pureYB rfl rfl rfl rfl hq5 (RV.load1 Tk3 rfl ((h_a1.at_ hx5).ext R0) rfl) ?_
            refine LW.pureYB rfl rfl rfl rfl hq5 (RV.move rfl) ?_
            refine LW.pureYB rfl rfl rfl rfl hq5 (RV.lss rfl rfl) ?_
            refine LW.pure rfl rfl (RV.pickTB rfl hq5 rfl) ?_
            refine LW.nil (jK140 _ _ ⟨_, ?_, ⟨(decide (x5 < a0)), F, rfl, H⟩⟩)
            exact ⟨rfl, rfl, rfl, (look_slice rfl (by first | rfl | (simp; done) | omega | (simp; omega))), rfl, rfl, trivial⟩
          ·
            replace F := ite_n hp5 F
            have hq5 := dec_f hp5
            refine CW.region ?_
            refine LW.pure rfl rfl (RV.move rfl) ?_
            refine LW.pure rfl rfl (RV.move rfl) ?_
            refine LW.pure rfl rfl (RV.indexAddr Ts30 rfl rfl hbx4 (h_a1.addr_ hx4)) ?_
            refine LW.pure rfl rfl (RV.load1 Tk3 rfl ((h_a1.at_ hx4).ext R0) rfl) ?_
            refine LW.pure rfl rfl (RV.geq rfl rfl) ?_
            refine LW.pure rfl rfl (RV.move rfl) ?_
            refine LW.noB rfl rfl rfl rfl (ne_beq (v := false) hq5 rfl) ?_
            refine LW.noB rfl rfl rfl rfl (ne_beq (v := false) hq5 rfl) ?_
            refine LW.noB rfl rfl rfl rfl (ne_beq (v := false) hq5 rfl) ?_
            refine LW.noB rfl rfl rfl rfl (ne_beq (v := false) hq5 rfl) ?_
            refine LW.noB rfl rfl rfl rfl (ne_beq (v := false) hq5 rfl) ?_
            refine LW.noB rfl rfl rfl rfl (ne_beq (v := false) hq5 rfl) ?_
            refine LW.pure rfl rfl (RV.pickFB rfl hq5 rfl) ?_
            refine LW.nil (jK140 _ _ ⟨_, ?_, ⟨false, F, rfl, H⟩⟩)
            exact ⟨rfl, rfl, rfl, (look_slice rfl (by first | rfl | (simp; done) | omega | (simp; omega))), rfl, rfl, trivial⟩
    ·
      replace F := ite_n hp3 F
      have hq3 := dec_f hp3
      refine CW.condF rfl hq3 ?_
      refine CW.exit (jK124 _ _ ⟨_, ?_, ⟨l6, F, rfl, H⟩⟩)
      exact ⟨rfl, rfl, (look_slice rfl (by first | rfl | (simp; done) | omega | (simp; omega))), trivial⟩
set_option maxRecDepth 20000 in
set_option maxHeartbeats 1000000 in
theorem top_TopFlows_ok {a0 : Net} {a1 : Int} {A_a0_drains : Option Addr} {c_a0_drains : Nat} {w : World} {res : Bool} (h_a0_drains : Sl w A_a0_drains c_a0_drains 3 (a0.drains.map encDrain)) (F : top_TopFlows a0 a1 = some res) : Calls Try.prog 15 #[.agg #[.int .i64 a0.nodes, .int .i64 a0.from_, .int .i64 a0.to_, .slice A_a0_drains a0.drains.length c_a0_drains], .int .i64 a1] w (Rt w (.bool res)) := by
  refine calls_of_cw (args := [.agg #[.int .i64 a0.nodes, .int .i64 a0.from_, .int .i64 a0.to_, .slice A_a0_drains a0.drains.length c_a0_drains], .int .i64 a1]) Try.func15 rfl rfl rfl rfl ?_
  have H := Hp.start w
  have R0 := H.ext
  unfold top_TopFlows at F
  refine CW.seq fun K1 hK1 => ?_
  refine CW.region ?_
  refine LW.go rfl rfl (OW.box rfl fun b1 w1 N1 => ?_)
  replace H := H.new N1 N1.blk
  replace R0 := H.ext
  refine LW.pure rfl rfl (RV.assign rfl) ?_
  refine LW.nil (hK1 _ _ ?_)
  refine CW.seq fun K2 hK2 => ?_
  refine CW.seq fun K3 hK3 => ?_
  obtain ⟨r26, hr26, F⟩ := bnd_some F
  refine CW.region ?_
  refine LW.pure rfl rfl (RV.build (vs := [.int .i64 1, .int .i64 0, .int .i64 4]) (cs := [.int .i64 1, .int .i64 0, .int .i64 4]) rfl (fun _ => by kernel_rfl)) ?_
  refine LW.pure rfl rfl (RV.build (vs := [.int .i64 0, .int .i64 1, .int .i64 9]) (cs := [.int .i64 0, .int .i64 1, .int .i64 9]) rfl (fun _ => by kernel_rfl)) ?_
  refine LW.go rfl rfl (OW.buildSlice (e := 52) (vs := [.agg #[.int .i64 1, .int .i64 0, .int .i64 4], .agg #[.int .i64 0, .int .i64 1, .int .i64 9]]) (cs := [.int .i64 1, .int .i64 0, .int .i64 4, .int .i64 0, .int .i64 1, .int .i64 9]) rfl (fun _ => by kernel_rfl) fun b2 w2 N2 => ?_)
  replace H := H.made' (k := 3) (t := 52) (enc := encDrain) (l := ([(⟨1, 0, 4⟩ : Drain), (⟨0, 1, 9⟩ : Drain)] : List Drain)) N2 N2.blk (fun _ => rfl) rfl (by first | decide | omega | (simp; done) | (simp; omega))
  replace R0 := H.ext
  refine LW.pure rfl rfl (RV.build (vs := [.int .i64 2, .int .i64 1, .int .i64 0, .slice (some ⟨b2, 0, none⟩) 2 ((([(⟨1, 0, 4⟩ : Drain), (⟨0, 1, 9⟩ : Drain)] : List Drain)).length)]) (cs := [.int .i64 2, .int .i64 1, .int .i64 0, .slice (some ⟨b2, 0, none⟩) 2 ((([(⟨1, 0, 4⟩ : Drain), (⟨0, 1, 9⟩ : Drain)] : List Drain)).length)]) rfl (fun _ => by kernel_rfl)) ?_
  refine LW.go rfl rfl (OW.call Tc18 (evs_cast rfl (by first | rfl | (simp; done) | (simp; omega))) (drain_Most_ok (a0 := (⟨2, 1, 0, ([(⟨1, 0, 4⟩ : Drain), (⟨0, 1, 9⟩ : Drain)] : List Drain)⟩ : Net)) (H.own 0 rfl).sl hr26) ?_)
  rintro _ w3 ⟨rfl, E1⟩
  refine ⟨_, rfl, ?_⟩
  replace H := H.grow E1
  replace R0 := H.ext
  refine LW.pure rfl rfl (RV.move rfl) ?_
  refine LW.pure rfl rfl (RV.extract rfl rfl) ?_
  refine LW.pure rfl rfl (RV.extract rfl rfl) ?_
  refine LW.pure rfl rfl (RV.assign rfl) ?_
  refine LW.pure rfl rfl (RV.assign rfl) ?_
  refine LW.nil (hK3 _ _ ?_)
  refine CW.seqJ (fun ρ wl1 => (∃ (t45_1 : Bool), top_TopFlows_k13 a0 a1 t45_1 = some res ∧ ρ = [(1, .int .i64 a1), (2, .pointer (some (⟨b1, 0, none⟩))), (4, .bool false), (45, .bool t45_1)] ∧ Hp w wl1 [.blk b1 24 [.int .i64 a0.nodes, .int .i64 a0.from_, .int .i64 a0.to_, .slice A_a0_drains a0.drains.length c_a0_drains]])) ?_ ?_
  ·
    rintro _ wl1 ⟨t45_1, F, rfl, H⟩
    have R0 := H.ext
    unfold top_TopFlows_k13 at F
    by_cases hp1 : t45_1 = true
    ·
      replace F := ite_y hp1 F
      have hq1 : t45_1 = true := hp1
      refine CW.condT rfl hq1 ?_
      refine CW.seq fun K4 hK4 => ?_
      refine CW.region ?_
      refine LW.pure rfl rfl (RV.assign rfl) ?_
      refine LW.nil (hK4 _ _ ?_)
      refine CW.ret ?_
      obtain rfl := Option.some.inj F
      refine ⟨_, (ResOK.one rfl), ?_⟩
      refine ⟨(by first | rfl | simp), R0⟩
    ·
      replace F := ite_n hp1 F
      have hq1 : t45_1 = false := raw_f hp1
      refine CW.condF rfl hq1 ?_
      refine CW.skip (hK2 _ _ ?_)
      refine CW.seq fun K5 hK5 => ?_
      refine CW.seq fun K6 hK6 => ?_
      obtain ⟨r23, hr23, F⟩ := bnd_some F
      refine CW.region ?_
      refine LW.pure rfl rfl (RV.loadA [.int .i64 a0.nodes, .int .i64 a0.from_, .int .i64 a0.to_, .slice A_a0_drains a0.drains.length c_a0_drains] Tk24 rfl (H.blk 0 rfl).cells rfl rfl) ?_
      refine LW.go rfl rfl (OW.call Tc16 rfl (law02_Long_ok (a0 := a0) (h_a0_drains.ext R0) hr23) ?_)
      rintro _ w4 ⟨rfl, E2⟩
      refine ⟨_, rfl, ?_⟩
      replace H := H.grow E2
      replace R0 := H.ext
      refine LW.nil (hK6 _ _ ?_)
      by_cases hp2 : r23 = true
      ·
        replace F := ite_y hp2 F
        have hq2 : r23 = true := hp2
        refine CW.condT rfl hq2 ?_
        refine CW.seq fun K7 hK7 => ?_
        refine CW.region ?_
        refine LW.pure rfl rfl (RV.assign rfl) ?_
        refine LW.nil (hK7 _ _ ?_)
        refine CW.ret ?_
        obtain rfl := Option.some.inj F
        refine ⟨_, (ResOK.one rfl), ?_⟩
        refine ⟨(by first | rfl | simp), R0⟩
      ·
        replace F := ite_n hp2 F
        have hq2 : r23 = false := raw_f hp2
        refine CW.condF rfl hq2 ?_
        refine CW.skip (hK5 _ _ ?_)
        refine CW.seq fun K8 hK8 => ?_
        obtain ⟨r8, hr8, F⟩ := bnd_some F
        refine CW.region ?_
        refine LW.pure rfl rfl (RV.loadA [.int .i64 a0.nodes, .int .i64 a0.from_, .int .i64 a0.to_, .slice A_a0_drains a0.drains.length c_a0_drains] Tk24 rfl (H.blk 0 rfl).cells rfl rfl) ?_
        refine LW.go rfl rfl (OW.call Tc20 rfl (drain_Flow_ok (a0 := a0) (h_a0_drains.ext R0) hr8) ?_)
        rintro _ w5 ⟨A41_0, c41_0, rfl, E3⟩
        refine ⟨_, rfl, ?_⟩
        replace H : Hp w w5 [.own A41_0 c41_0 3 1 (List.map encN r8.1), .blk b1 24 [.int .i64 a0.nodes, .int .i64 a0.from_, .int .i64 a0.to_, .slice A_a0_drains a0.drains.length c_a0_drains]] := H.append E3
        replace R0 := H.ext
        refine LW.pure rfl rfl (RV.move rfl) ?_
        refine LW.pure rfl rfl (RV.extract rfl rfl) ?_
        refine LW.pure rfl rfl (RV.extract rfl rfl) ?_
        refine LW.pure rfl rfl (RV.assign rfl) ?_
        refine LW.pure rfl rfl (RV.assign rfl) ?_
        refine LW.nil (hK8 _ _ ?_)
        refine CW.seq fun K9 hK9 => ?_
        refine CW.seq fun K10 hK10 => ?_
        refine CW.region ?_
        refine LW.pure rfl rfl (RV.move rfl) ?_
        refine LW.pure rfl rfl (RV.nei rfl rfl) ?_
        refine LW.nil (hK10 _ _ ?_)
        by_cases hp3 : r8.2 = 0
        ·
          replace F := ite_y hp3 F
          have hq3 := dec_t hp3
          refine CW.condF rfl (not_f hq3) ?_
          refine CW.skip (hK9 _ _ ?_)
          refine CW.seq fun K11 hK11 => ?_
          obtain ⟨r1, hr1, F⟩ := bnd_some F
          refine CW.region ?_
          refine LW.pure rfl rfl (RV.loadA [.int .i64 a0.nodes, .int .i64 a0.from_, .int .i64 a0.to_, .slice A_a0_drains a0.drains.length c_a0_drains] Tk24 rfl (H.blk 1 rfl).cells rfl rfl) ?_
          refine LW.go rfl rfl (OW.call Tc18 rfl (drain_Most_ok (a0 := a0) (h_a0_drains.ext R0) hr1) ?_)
          rintro _ w6 ⟨rfl, E4⟩
          refine ⟨_, rfl, ?_⟩
          replace H := H.grow E4
          replace R0 := H.ext
          refine LW.pure rfl rfl (RV.move rfl) ?_
          refine LW.pure rfl rfl (RV.extract rfl rfl) ?_
          refine LW.pure rfl rfl (RV.extract rfl rfl) ?_
          refine LW.pure rfl rfl (RV.assign rfl) ?_
          refine LW.pure rfl rfl (RV.assign rfl) ?_
          refine LW.nil (hK11 _ _ ?_)
          refine CW.seq fun K12 hK12 => ?_
          obtain ⟨r9, hr9, F⟩ := bnd_some F
          refine CW.region ?_
          refine LW.pure rfl rfl (RV.loadA [.int .i64 a0.nodes, .int .i64 a0.from_, .int .i64 a0.to_, .slice A_a0_drains a0.drains.length c_a0_drains] Tk24 rfl (H.blk 1 rfl).cells rfl rfl) ?_
          refine LW.go rfl rfl (OW.call Tc30 rfl (drain_Least_ok (a0 := a0) (h_a0_drains.ext R0) hr9) ?_)
          rintro _ w7 ⟨A45_0, c45_0, rfl, E5⟩
          refine ⟨_, rfl, ?_⟩
          replace H : Hp w w7 [.own A45_0 c45_0 3 1 (List.map encN r9.1), .own A41_0 c41_0 3 1 (List.map encN r8.1), .blk b1 24 [.int .i64 a0.nodes, .int .i64 a0.from_, .int .i64 a0.to_, .slice A_a0_drains a0.drains.length c_a0_drains]] := H.append E5
          replace R0 := H.ext
          refine LW.pure rfl rfl (RV.move rfl) ?_
          refine LW.pure rfl rfl (RV.extract rfl rfl) ?_
          refine LW.pure rfl rfl (RV.extract rfl rfl) ?_
          refine LW.pure rfl rfl (RV.assign rfl) ?_
          refine LW.pure rfl rfl (RV.assign rfl) ?_
          refine LW.nil (hK12 _ _ ?_)
          refine CW.seq fun K13 hK13 => ?_
          obtain ⟨r10, hr10, F⟩ := bnd_some F
          refine CW.region ?_
          refine LW.pure rfl rfl (RV.loadA [.int .i64 a0.nodes, .int .i64 a0.from_, .int .i64 a0.to_, .slice A_a0_drains a0.drains.length c_a0_drains] Tk24 rfl (H.blk 2 rfl).cells rfl rfl) ?_
          refine LW.go rfl rfl (OW.call Tc32 rfl (drain_Greatest_ok (a0 := a0) (h_a0_drains.ext R0) hr10) ?_)
          rintro _ w8 ⟨A47_0, c47_0, rfl, E6⟩
          refine ⟨_, rfl, ?_⟩
          replace H : Hp w w8 [.own A47_0 c47_0 3 1 (List.map encN r10.1), .own A45_0 c45_0 3 1 (List.map encN r9.1), .own A41_0 c41_0 3 1 (List.map encN r8.1), .blk b1 24 [.int .i64 a0.nodes, .int .i64 a0.from_, .int .i64 a0.to_, .slice A_a0_drains a0.drains.length c_a0_drains]] := H.append E6
          replace R0 := H.ext
          refine LW.pure rfl rfl (RV.move rfl) ?_
          refine LW.pure rfl rfl (RV.extract rfl rfl) ?_
          refine LW.pure rfl rfl (RV.extract rfl rfl) ?_
          refine LW.pure rfl rfl (RV.assign rfl) ?_
          refine LW.pure rfl rfl (RV.assign rfl) ?_
          refine LW.nil (hK13 _ _ ?_)
          refine CW.seq fun K14 hK14 => ?_
          refine CW.seqJ (fun ρ wl2 => (∃ (t93_1 : Bool), top_TopFlows_k12 a0 a1 r8 r1 r9 r10 t93_1 = some res ∧ ρ = [(1, .int .i64 a1), (2, .pointer (some (⟨b1, 0, none⟩))), (4, .bool false), (7, .slice A41_0 r8.1.length c41_0), (9, .int .i64 r1.1), (11, .slice A45_0 r9.1.length c45_0), (13, .slice A47_0 r10.1.length c47_0), (93, .bool t93_1)] ∧ Hp w wl2 [.own A41_0 c41_0 3 1 (List.map encN r8.1), .own A45_0 c45_0 3 1 (List.map encN r9.1), .own A47_0 c47_0 3 1 (List.map encN r10.1), .blk b1 24 [.int .i64 a0.nodes, .int .i64 a0.from_, .int .i64 a0.to_, .slice A_a0_drains a0.drains.length c_a0_drains]])) ?_ ?_
          ·
            rintro _ wl2 ⟨t93_1, F, rfl, H⟩
            have R0 := H.ext
            unfold top_TopFlows_k12 at F
            by_cases hp4 : t93_1 = true
            ·
              replace F := ite_y hp4 F
              have hq4 : t93_1 = true := hp4
              refine CW.condT rfl hq4 ?_
              refine CW.seq fun K15 hK15 => ?_
              refine CW.region ?_
              refine LW.pure rfl rfl (RV.assign rfl) ?_
              refine LW.nil (hK15 _ _ ?_)
              refine CW.ret ?_
              obtain rfl := Option.some.inj F
              refine ⟨_, (ResOK.one rfl), ?_⟩
              refine ⟨(by first | rfl | simp), R0⟩
            ·
              replace F := ite_n hp4 F
              have hq4 : t93_1 = false := raw_f hp4
              refine CW.condF rfl hq4 ?_
              refine CW.skip (hK14 _ _ ?_)
              refine CW.seq fun K16 hK16 => ?_
              refine CW.seq fun K17 hK17 => ?_
              obtain ⟨r22, hr22, F⟩ := bnd_some F
              refine CW.region ?_
              refine LW.pure rfl rfl (RV.loadA [.int .i64 a0.nodes, .int .i64 a0.from_, .int .i64 a0.to_, .slice A_a0_drains a0.drains.length c_a0_drains] Tk24 rfl (H.blk 3 rfl).cells rfl rfl) ?_
              refine LW.pure rfl rfl (RV.move rfl) ?_
              refine LW.go rfl rfl (OW.call Tc25 rfl (drain_CheckFlow_ok (a0 := a0) (a1 := r8.1) (h_a0_drains.ext R0) (H.own 0 rfl).sl hr22) ?_)
              rintro _ w9 ⟨rfl, E7⟩
              refine ⟨_, rfl, ?_⟩
              replace H := H.grow E7
              replace R0 := H.ext
              refine LW.pure rfl rfl (RV.move rfl) ?_
              refine LW.pure rfl rfl (RV.extract rfl rfl) ?_
              refine LW.pure rfl rfl (RV.extract rfl rfl) ?_
              refine LW.pure rfl rfl (RV.assign rfl) ?_
              refine LW.pure rfl rfl (RV.assign rfl) ?_
              refine LW.nil (hK17 _ _ ?_)
              refine CW.seqJ (fun ρ wl3 => (∃ (t106_1 : Bool), top_TopFlows_k11 a0 a1 r8 r1 r9 r10 t106_1 = some res ∧ ρ = [(1, .int .i64 a1), (2, .pointer (some (⟨b1, 0, none⟩))), (4, .bool false), (7, .slice A41_0 r8.1.length c41_0), (9, .int .i64 r1.1), (11, .slice A45_0 r9.1.length c45_0), (13, .slice A47_0 r10.1.length c47_0), (106, .bool t106_1)] ∧ Hp w wl3 [.own A41_0 c41_0 3 1 (List.map encN r8.1), .own A45_0 c45_0 3 1 (List.map encN r9.1), .own A47_0 c47_0 3 1 (List.map encN r10.1), .blk b1 24 [.int .i64 a0.nodes, .int .i64 a0.from_, .int .i64 a0.to_, .slice A_a0_drains a0.drains.length c_a0_drains]])) ?_ ?_
              ·
                rintro _ wl3 ⟨t106_1, F, rfl, H⟩
                have R0 := H.ext
                unfold top_TopFlows_k11 at F
                by_cases hp5 : t106_1 = true
                ·
                  replace F := ite_y hp5 F
                  have hq5 : t106_1 = true := hp5
                  refine CW.condT rfl hq5 ?_
                  refine CW.seq fun K18 hK18 => ?_
                  refine CW.region ?_
                  refine LW.pure rfl rfl (RV.assign rfl) ?_
                  refine LW.nil (hK18 _ _ ?_)
                  refine CW.ret ?_
                  obtain rfl := Option.some.inj F
                  refine ⟨_, (ResOK.one rfl), ?_⟩
                  refine ⟨(by first | rfl | simp), R0⟩
                ·
                  replace F := ite_n hp5 F
                  have hq5 : t106_1 = false := raw_f hp5
                  refine CW.condF rfl hq5 ?_
                  refine CW.skip (hK16 _ _ ?_)
                  refine CW.seq fun K19 hK19 => ?_
                  obtain ⟨r19, hr19, F⟩ := bnd_some F
                  refine CW.region ?_
                  refine LW.pure rfl rfl (RV.loadA [.int .i64 a0.nodes, .int .i64 a0.from_, .int .i64 a0.to_, .slice A_a0_drains a0.drains.length c_a0_drains] Tk24 rfl (H.blk 3 rfl).cells rfl rfl) ?_
                  refine LW.pure rfl rfl (RV.move rfl) ?_
                  refine LW.go rfl rfl (OW.call Tc53 rfl (drain_Split_ok (a0 := a0) (a1 := r8.1) (h_a0_drains.ext R0) (H.own 0 rfl).sl hr19) ?_)
                  rintro _ w10 ⟨A53_0, c53_0, hs53_0, rfl, E8⟩
                  refine ⟨_, rfl, ?_⟩
                  replace H : Hp w w10 [.inv (tbxB A53_0 hs53_0) (TbxH A53_0 c53_0 79 2 encTrail (fun x => x.drains) 3 1 encN hs53_0 r19.1), .own A41_0 c41_0 3 1 (List.map encN r8.1), .own A45_0 c45_0 3 1 (List.map encN r9.1), .own A47_0 c47_0 3 1 (List.map encN r10.1), .blk b1 24 [.int .i64 a0.nodes, .int .i64 a0.from_, .int .i64 a0.to_, .slice A_a0_drains a0.drains.length c_a0_drains]] := H.append E8
                  replace R0 := H.ext
                  refine LW.pure rfl rfl (RV.move rfl) ?_
                  refine LW.pure rfl rfl (RV.extract rfl rfl) ?_
                  refine LW.pure rfl rfl (RV.extract rfl rfl) ?_
                  refine LW.pure rfl rfl (RV.assign rfl) ?_
                  refine LW.pure rfl rfl (RV.assign rfl) ?_
                  refine LW.nil (hK19 _ _ ?_)
                  refine CW.seq fun K20 hK20 => ?_
                  obtain ⟨r20, hr20, F⟩ := bnd_some F
                  refine CW.region ?_
                  refine LW.pure rfl rfl (RV.loadA [.int .i64 a0.nodes, .int .i64 a0.from_, .int .i64 a0.to_, .slice A_a0_drains a0.drains.length c_a0_drains] Tk24 rfl (H.blk 4 rfl).cells rfl rfl) ?_
                  refine LW.pure rfl rfl (RV.move rfl) ?_
                  refine LW.go rfl rfl (OW.call Tc38 rfl (drain_Sum_ok (a0 := a0) (a1 := r19.1) (h_a0_drains.ext R0) (H.tbx 0 rfl).slT hr20) ?_)
                  rintro _ w11 ⟨A55_0, c55_0, rfl, E9⟩
                  refine ⟨_, rfl, ?_⟩
                  replace H : Hp w w11 [.own A55_0 c55_0 3 1 (List.map encN r20.1), .inv (tbxB A53_0 hs53_0) (TbxH A53_0 c53_0 79 2 encTrail (fun x => x.drains) 3 1 encN hs53_0 r19.1), .own A41_0 c41_0 3 1 (List.map encN r8.1), .own A45_0 c45_0 3 1 (List.map encN r9.1), .own A47_0 c47_0 3 1 (List.map encN r10.1), .blk b1 24 [.int .i64 a0.nodes, .int .i64 a0.from_, .int .i64 a0.to_, .slice A_a0_drains a0.drains.length c_a0_drains]] := H.append E9
                  replace R0 := H.ext
                  refine LW.pure rfl rfl (RV.move rfl) ?_
                  refine LW.pure rfl rfl (RV.extract rfl rfl) ?_
                  refine LW.pure rfl rfl (RV.extract rfl rfl) ?_
                  refine LW.pure rfl rfl (RV.assign rfl) ?_
                  refine LW.pure rfl rfl (RV.assign rfl) ?_
                  refine LW.nil (hK20 _ _ ?_)
                  refine CW.seq fun K21 hK21 => ?_
                  refine CW.seqJ (fun ρ wl4 => (∃ (t130_1 : Bool), top_TopFlows_k10 a0 a1 r8 r1 r9 r10 t130_1 = some res ∧ ρ = [(1, .int .i64 a1), (2, .pointer (some (⟨b1, 0, none⟩))), (4, .bool false), (7, .slice A41_0 r8.1.length c41_0), (9, .int .i64 r1.1), (11, .slice A45_0 r9.1.length c45_0), (13, .slice A47_0 r10.1.length c47_0), (130, .bool t130_1)] ∧ Hp w wl4 [.own A41_0 c41_0 3 1 (List.map encN r8.1), .own A45_0 c45_0 3 1 (List.map encN r9.1), .own A47_0 c47_0 3 1 (List.map encN r10.1), .blk b1 24 [.int .i64 a0.nodes, .int .i64 a0.from_, .int .i64 a0.to_, .slice A_a0_drains a0.drains.length c_a0_drains]])) ?_ ?_
                  ·
                    rintro _ wl4 ⟨t130_1, F, rfl, H⟩
                    have R0 := H.ext
                    unfold top_TopFlows_k10 at F
                    by_cases hp6 : t130_1 = true
                    ·
                      replace F := ite_y hp6 F
                      have hq6 : t130_1 = true := hp6
                      refine CW.condT rfl hq6 ?_
                      refine CW.seq fun K22 hK22 => ?_
                      refine CW.region ?_
                      refine LW.pure rfl rfl (RV.assign rfl) ?_
                      refine LW.nil (hK22 _ _ ?_)
                      refine CW.ret ?_
                      obtain rfl := Option.some.inj F
                      refine ⟨_, (ResOK.one rfl), ?_⟩
                      refine ⟨(by first | rfl | simp), R0⟩
                    ·
                      replace F := ite_n hp6 F
                      have hq6 : t130_1 = false := raw_f hp6
                      refine CW.condF rfl hq6 ?_
                      refine CW.skip (hK21 _ _ ?_)
                      refine CW.seq fun K23 hK23 => ?_
                      obtain ⟨r11, hr11, F⟩ := bnd_some F
                      refine CW.region ?_
                      refine LW.pure rfl rfl (RV.loadA [.int .i64 a0.nodes, .int .i64 a0.from_, .int .i64 a0.to_, .slice A_a0_drains a0.drains.length c_a0_drains] Tk24 rfl (H.blk 3 rfl).cells rfl rfl) ?_
                      refine LW.go rfl rfl (OW.call Tc22 rfl (drain_Reverse_ok (a0 := a0) (h_a0_drains.ext R0) hr11) ?_)
                      rintro _ w12 ⟨A58_0_drains, c58_0_drains, rfl, E10⟩
                      refine ⟨_, rfl, ?_⟩
                      replace H : Hp w w12 [.own A58_0_drains c58_0_drains 52 3 (List.map encDrain r11.1.drains), .own A41_0 c41_0 3 1 (List.map encN r8.1), .own A45_0 c45_0 3 1 (List.map encN r9.1), .own A47_0 c47_0 3 1 (List.map encN r10.1), .blk b1 24 [.int .i64 a0.nodes, .int .i64 a0.from_, .int .i64 a0.to_, .slice A_a0_drains a0.drains.length c_a0_drains]] := H.append E10
                      replace R0 := H.ext
                      refine LW.pure rfl rfl (RV.move rfl) ?_
                      refine LW.pure rfl rfl (RV.extract rfl rfl) ?_
                      refine LW.pure rfl rfl (RV.extract rfl rfl) ?_
                      refine LW.go rfl rfl (OW.alloc Tz24 fun b3 w13 N3 => ?_)
                      replace H := H.new N3 N3.blk
                      replace R0 := H.ext
                      refine LW.go rfl rfl (OW.store Tk24 rfl rfl (H.blk 0 rfl) (off := 0) (vs := [.int .i64 r11.1.nodes, .int .i64 r11.1.from_, .int .i64 r11.1.to_, .slice A58_0_drains r11.1.drains.length c58_0_drains]) rfl rfl rfl rfl rfl fun w14 S1 => ?_)
                      replace H : Hp w w14 [.blk b3 24 [.int .i64 r11.1.nodes, .int .i64 r11.1.from_, .int .i64 r11.1.to_, .slice A58_0_drains r11.1.drains.length c58_0_drains], .own A58_0_drains c58_0_drains 52 3 (List.map encDrain r11.1.drains), .own A41_0 c41_0 3 1 (List.map encN r8.1), .own A45_0 c45_0 3 1 (List.map encN r9.1), .own A47_0 c47_0 3 1 (List.map encN r10.1), .blk b1 24 [.int .i64 a0.nodes, .int .i64 a0.from_, .int .i64 a0.to_, .slice A_a0_drains a0.drains.length c_a0_drains]] := H.stored 0 rfl S1
                      replace R0 := H.ext
                      refine LW.pure rfl rfl (RV.assign rfl) ?_
                      refine LW.nil (hK23 _ _ ?_)
                      refine CW.seq fun K24 hK24 => ?_
                      obtain ⟨r12, hr12, F⟩ := bnd_some F
                      refine CW.region ?_
                      refine LW.pure rfl rfl (RV.loadA [.int .i64 r11.1.nodes, .int .i64 r11.1.from_, .int .i64 r11.1.to_, .slice A58_0_drains r11.1.drains.length c58_0_drains] Tk24 rfl (H.blk 0 rfl).cells rfl rfl) ?_
                      refine LW.go rfl rfl (OW.call Tc30 rfl (drain_Least_ok (a0 := r11.1) (H.own 1 rfl).sl hr12) ?_)
                      rintro _ w15 ⟨A60_0, c60_0, rfl, E11⟩
                      refine ⟨_, rfl, ?_⟩
                      replace H : Hp w w15 [.own A60_0 c60_0 3 1 (List.map encN r12.1), .blk b3 24 [.int .i64 r11.1.nodes, .int .i64 r11.1.from_, .int .i64 r11.1.to_, .slice A58_0_drains r11.1.drains.length c58_0_drains], .own A58_0_drains c58_0_drains 52 3 (List.map encDrain r11.1.drains), .own A41_0 c41_0 3 1 (List.map encN r8.1), .own A45_0 c45_0 3 1 (List.map encN r9.1), .own A47_0 c47_0 3 1 (List.map encN r10.1), .blk b1 24 [.int .i64 a0.nodes, .int .i64 a0.from_, .int .i64 a0.to_, .slice A_a0_drains a0.drains.length c_a0_drains]] := H.append E11
                      replace R0 := H.ext
                      refine LW.pure rfl rfl (RV.move rfl) ?_
                      refine LW.pure rfl rfl (RV.extract rfl rfl) ?_
                      refine LW.pure rfl rfl (RV.extract rfl rfl) ?_
                      refine LW.pure rfl rfl (RV.assign rfl) ?_
                      refine LW.pure rfl rfl (RV.assign rfl) ?_
                      refine LW.nil (hK24 _ _ ?_)
                      refine CW.seq fun K25 hK25 => ?_
                      obtain ⟨r13, hr13, F⟩ := bnd_some F
                      refine CW.region ?_
                      refine LW.pure rfl rfl (RV.loadA [.int .i64 r11.1.nodes, .int .i64 r11.1.from_, .int .i64 r11.1.to_, .slice A58_0_drains r11.1.drains.length c58_0_drains] Tk24 rfl (H.blk 1 rfl).cells rfl rfl) ?_
                      refine LW.go rfl rfl (OW.call Tc32 rfl (drain_Greatest_ok (a0 := r11.1) (H.own 2 rfl).sl hr13) ?_)
                      rintro _ w16 ⟨A62_0, c62_0, rfl, E12⟩
                      refine ⟨_, rfl, ?_⟩
                      replace H : Hp w w16 [.own A62_0 c62_0 3 1 (List.map encN r13.1), .own A60_0 c60_0 3 1 (List.map encN r12.1), .blk b3 24 [.int .i64 r11.1.nodes, .int .i64 r11.1.from_, .int .i64 r11.1.to_, .slice A58_0_drains r11.1.drains.length c58_0_drains], .own A58_0_drains c58_0_drains 52 3 (List.map encDrain r11.1.drains), .own A41_0 c41_0 3 1 (List.map encN r8.1), .own A45_0 c45_0 3 1 (List.map encN r9.1), .own A47_0 c47_0 3 1 (List.map encN r10.1), .blk b1 24 [.int .i64 a0.nodes, .int .i64 a0.from_, .int .i64 a0.to_, .slice A_a0_drains a0.drains.length c_a0_drains]] := H.append E12
                      replace R0 := H.ext
                      refine LW.pure rfl rfl (RV.move rfl) ?_
                      refine LW.pure rfl rfl (RV.extract rfl rfl) ?_
                      refine LW.pure rfl rfl (RV.extract rfl rfl) ?_
                      refine LW.pure rfl rfl (RV.assign rfl) ?_
                      refine LW.pure rfl rfl (RV.assign rfl) ?_
                      refine LW.nil (hK25 _ _ ?_)
                      refine CW.seq fun K26 hK26 => ?_
                      refine CW.seqJ (fun ρ wl5 => (∃ (t180_1 : Bool), top_TopFlows_k9 a0 a1 r1 t180_1 = some res ∧ ρ = [(1, .int .i64 a1), (2, .pointer (some (⟨b1, 0, none⟩))), (4, .bool false), (9, .int .i64 r1.1), (180, .bool t180_1)] ∧ Hp w wl5 [.blk b1 24 [.int .i64 a0.nodes, .int .i64 a0.from_, .int .i64 a0.to_, .slice A_a0_drains a0.drains.length c_a0_drains]])) ?_ ?_
                      ·
                        rintro _ wl5 ⟨t180_1, F, rfl, H⟩
                        have R0 := H.ext
                        unfold top_TopFlows_k9 at F
                        by_cases hp7 : t180_1 = true
                        ·
                          replace F := ite_y hp7 F
                          have hq7 : t180_1 = true := hp7
                          refine CW.condT rfl hq7 ?_
                          refine CW.seq fun K27 hK27 => ?_
                          refine CW.region ?_
                          refine LW.pure rfl rfl (RV.assign rfl) ?_
                          refine LW.nil (hK27 _ _ ?_)
                          refine CW.ret ?_
                          obtain rfl := Option.some.inj F
                          refine ⟨_, (ResOK.one rfl), ?_⟩
                          refine ⟨(by first | rfl | simp), R0⟩
                        ·
                          replace F := ite_n hp7 F
                          have hq7 : t180_1 = false := raw_f hp7
                          refine CW.condF rfl hq7 ?_
                          refine CW.skip (hK26 _ _ ?_)
                          refine CW.seq fun K28 hK28 => ?_
                          refine CW.seqJ (fun ρ wl6 => (∃ (t189_1 : Bool), top_TopFlows_k8 a0 a1 r1 t189_1 = some res ∧ ρ = [(1, .int .i64 a1), (2, .pointer (some (⟨b1, 0, none⟩))), (4, .bool false), (9, .int .i64 r1.1), (189, .bool t189_1)] ∧ Hp w wl6 [.blk b1 24 [.int .i64 a0.nodes, .int .i64 a0.from_, .int .i64 a0.to_, .slice A_a0_drains a0.drains.length c_a0_drains]])) ?_ ?_
                          ·
                            rintro _ wl6 ⟨t189_1, F, rfl, H⟩
                            have R0 := H.ext
                            unfold top_TopFlows_k8 at F
                            by_cases hp8 : t189_1 = true
                            ·
                              replace F := ite_y hp8 F
                              have hq8 : t189_1 = true := hp8
                              refine CW.condT rfl hq8 ?_
                              refine CW.seq fun K29 hK29 => ?_
                              refine CW.region ?_
                              refine LW.pure rfl rfl (RV.assign rfl) ?_
                              refine LW.nil (hK29 _ _ ?_)
                              refine CW.ret ?_
                              obtain rfl := Option.some.inj F
                              refine ⟨_, (ResOK.one rfl), ?_⟩
                              refine ⟨(by first | rfl | simp), R0⟩
                            ·
                              replace F := ite_n hp8 F
                              have hq8 : t189_1 = false := raw_f hp8
                              refine CW.condF rfl hq8 ?_
                              refine CW.skip (hK28 _ _ ?_)
                              refine CW.seq fun K30 hK30 => ?_
                              obtain ⟨r6, hr6, F⟩ := bnd_some F
                              refine CW.region ?_
                              refine LW.pure rfl rfl (RV.loadA [.int .i64 a0.nodes, .int .i64 a0.from_, .int .i64 a0.to_, .slice A_a0_drains a0.drains.length c_a0_drains] Tk24 rfl (H.blk 0 rfl).cells rfl rfl) ?_
                              refine LW.go rfl rfl (OW.call Tc48 rfl (drain_Needless_ok (a0 := a0) (h_a0_drains.ext R0) hr6) ?_)
                              rintro _ w17 ⟨A69_0, c69_0, rfl, E13⟩
                              refine ⟨_, rfl, ?_⟩
                              replace H : Hp w w17 [.own A69_0 c69_0 3 1 (List.map encN r6.1), .blk b1 24 [.int .i64 a0.nodes, .int .i64 a0.from_, .int .i64 a0.to_, .slice A_a0_drains a0.drains.length c_a0_drains]] := H.append E13
                              replace R0 := H.ext
                              refine LW.pure rfl rfl (RV.move rfl) ?_
                              refine LW.pure rfl rfl (RV.extract rfl rfl) ?_
                              refine LW.pure rfl rfl (RV.extract rfl rfl) ?_
                              refine LW.pure rfl rfl (RV.assign rfl) ?_
                              refine LW.pure rfl rfl (RV.assign rfl) ?_
                              refine LW.nil (hK30 _ _ ?_)
                              refine CW.seqJ (fun ρ wl7 => (∃ (t10_1 : Int) (c1_0_1 : Int) (c1_1_1 : Int) (c1_2_1 : Int) (l1 : List Drain) (bk1 : Nat) (Al1 : Option Addr) (cl1 : Nat), top_TopFlows_k7 a0 a1 r1 r6 t10_1 c1_0_1 c1_1_1 c1_2_1 l1 = some res ∧ ρ = [(1, .int .i64 a1), (2, .pointer (some (⟨b1, 0, none⟩))), (4, .bool false), (8, .int .i64 r6.2), (9, .int .i64 r1.1), (10, .int .i64 t10_1), (22, .slice A69_0 r6.1.length c69_0), (23, .pointer (some (⟨bk1, 0, none⟩)))] ∧ Hp w wl7 [.own A69_0 c69_0 3 1 (List.map encN r6.1), .own Al1 cl1 52 3 (List.map encDrain l1), .blk b1 24 [.int .i64 a0.nodes, .int .i64 a0.from_, .int .i64 a0.to_, .slice A_a0_drains a0.drains.length c_a0_drains], .blk bk1 24 [.int .i64 c1_0_1, .int .i64 c1_1_1, .int .i64 c1_2_1, .slice Al1 l1.length cl1]])) ?_ ?_
                              ·
                                rintro _ wl7 ⟨t10_1, c1_0_1, c1_1_1, c1_2_1, l1, bk1, Al1, cl1, F, rfl, H⟩
                                have R0 := H.ext
                                unfold top_TopFlows_k7 at F
                                refine CW.seq fun K31 hK31 => ?_
                                obtain ⟨r4, hr4, F⟩ := bnd_some F
                                refine CW.region ?_
                                refine LW.pure rfl rfl (RV.loadA [.int .i64 c1_0_1, .int .i64 c1_1_1, .int .i64 c1_2_1, .slice Al1 l1.length cl1] Tk24 rfl (H.blk 3 rfl).cells rfl rfl) ?_
                                refine LW.go rfl rfl (OW.call Tc18 rfl (drain_Most_ok (a0 := (⟨c1_0_1, c1_1_1, c1_2_1, l1⟩ : Net)) (H.own 1 rfl).sl hr4) ?_)
                                rintro _ w18 ⟨rfl, E14⟩
                                refine ⟨_, rfl, ?_⟩
                                replace H := H.grow E14
                                replace R0 := H.ext
                                refine LW.pure rfl rfl (RV.move rfl) ?_
                                refine LW.pure rfl rfl (RV.extract rfl rfl) ?_
                                refine LW.pure rfl rfl (RV.extract rfl rfl) ?_
                                refine LW.pure rfl rfl (RV.assign rfl) ?_
                                refine LW.pure rfl rfl (RV.assign rfl) ?_
                                refine LW.nil (hK31 _ _ ?_)
                                refine CW.seq fun K32 hK32 => ?_
                                refine CW.seqJ (fun ρ wl8 => (∃ (t227_1 : Bool), top_TopFlows_k6 a0 a1 r1 r6 r4 t227_1 = some res ∧ ρ = [(1, .int .i64 a1), (2, .pointer (some (⟨b1, 0, none⟩))), (4, .bool false), (9, .int .i64 r1.1), (22, .slice A69_0 r6.1.length c69_0), (24, .int .i64 r4.1), (227, .bool t227_1)] ∧ Hp w wl8 [.own A69_0 c69_0 3 1 (List.map encN r6.1), .blk b1 24 [.int .i64 a0.nodes, .int .i64 a0.from_, .int .i64 a0.to_, .slice A_a0_drains a0.drains.length c_a0_drains]])) ?_ ?_
                                ·
                                  rintro _ wl8 ⟨t227_1, F, rfl, H⟩
                                  have R0 := H.ext
                                  unfold top_TopFlows_k6 at F
                                  by_cases hp9 : t227_1 = true
                                  ·
                                    replace F := ite_y hp9 F
                                    have hq9 : t227_1 = true := hp9
                                    refine CW.condT rfl hq9 ?_
                                    refine CW.seq fun K33 hK33 => ?_
                                    refine CW.region ?_
                                    refine LW.pure rfl rfl (RV.assign rfl) ?_
                                    refine LW.nil (hK33 _ _ ?_)
                                    refine CW.ret ?_
                                    obtain rfl := Option.some.inj F
                                    refine ⟨_, (ResOK.one rfl), ?_⟩
                                    refine ⟨(by first | rfl | simp), R0⟩
                                  ·
                                    replace F := ite_n hp9 F
                                    have hq9 : t227_1 = false := raw_f hp9
                                    refine CW.condF rfl hq9 ?_
                                    refine CW.skip (hK32 _ _ ?_)
                                    refine CW.seq fun K34 hK34 => ?_
                                    refine CW.region ?_
                                    refine LW.pure rfl rfl (RV.assign rfl) ?_
                                    refine LW.nil (hK34 _ _ ?_)
                                    refine CW.seqJ (fun ρ wl9 => (∃ (t25_1 : Bool), top_TopFlows_k4 a0 a1 r1 r4 t25_1 = some res ∧ ρ = [(1, .int .i64 a1), (2, .pointer (some (⟨b1, 0, none⟩))), (4, .bool false), (9, .int .i64 r1.1), (24, .int .i64 r4.1), (25, .bool t25_1)] ∧ Hp w wl9 [.blk b1 24 [.int .i64 a0.nodes, .int .i64 a0.from_, .int .i64 a0.to_, .slice A_a0_drains a0.drains.length c_a0_drains]])) ?_ ?_
                                    ·
                                      rintro _ wl9 ⟨t25_1, F, rfl, H⟩
                                      have R0 := H.ext
                                      unfold top_TopFlows_k4 at F
                                      refine CW.seq fun K35 hK35 => ?_
                                      obtain ⟨r5, hr5, F⟩ := bnd_some F
                                      refine CW.region ?_
                                      refine LW.pure rfl rfl (RV.loadA [.int .i64 a0.nodes, .int .i64 a0.from_, .int .i64 a0.to_, .slice A_a0_drains a0.drains.length c_a0_drains] Tk24 rfl (H.blk 0 rfl).cells rfl rfl) ?_
                                      refine LW.go rfl rfl (OW.call Tc45 rfl (drain_Critical_ok (a0 := a0) (h_a0_drains.ext R0) hr5) ?_)
                                      rintro _ w19 ⟨A74_0, c74_0, rfl, E15⟩
                                      refine ⟨_, rfl, ?_⟩
                                      replace H : Hp w w19 [.own A74_0 c74_0 3 1 (List.map encN r5.1), .blk b1 24 [.int .i64 a0.nodes, .int .i64 a0.from_, .int .i64 a0.to_, .slice A_a0_drains a0.drains.length c_a0_drains]] := H.append E15
                                      replace R0 := H.ext
                                      refine LW.pure rfl rfl (RV.move rfl) ?_
                                      refine LW.pure rfl rfl (RV.extract rfl rfl) ?_
                                      refine LW.pure rfl rfl (RV.extract rfl rfl) ?_
                                      refine LW.pure rfl rfl (RV.assign rfl) ?_
                                      refine LW.pure rfl rfl (RV.assign rfl) ?_
                                      refine LW.nil (hK35 _ _ ?_)
                                      refine CW.seq fun K36 hK36 => ?_
                                      refine CW.region ?_
                                      refine LW.pure rfl rfl (RV.assign rfl) ?_
                                      refine LW.nil (hK36 _ _ ?_)
                                      refine CW.seqJ (fun ρ wl10 => (∃ (t28_1 : Bool), top_TopFlows_k2 a0 a1 r1 r4 t25_1 r5 t28_1 = some res ∧ ρ = [(1, .int .i64 a1), (2, .pointer (some (⟨b1, 0, none⟩))), (4, .bool false), (8, .int .i64 r5.2), (9, .int .i64 r1.1), (24, .int .i64 r4.1), (25, .bool t25_1), (28, .bool t28_1)] ∧ Hp w wl10 [.blk b1 24 [.int .i64 a0.nodes, .int .i64 a0.from_, .int .i64 a0.to_, .slice A_a0_drains a0.drains.length c_a0_drains]])) ?_ ?_
                                      ·
                                        rintro _ wl10 ⟨t28_1, F, rfl, H⟩
                                        have R0 := H.ext
                                        unfold top_TopFlows_k2 at F
                                        refine CW.seq fun K37 hK37 => ?_
                                        refine CW.seqJ (fun ρ wl11 => (∃ (t277_1 : Bool), top_TopFlows_k1 a0 a1 r1 t28_1 t277_1 = some res ∧ ρ = [(1, .int .i64 a1), (2, .pointer (some (⟨b1, 0, none⟩))), (4, .bool false), (9, .int .i64 r1.1), (28, .bool t28_1), (277, .bool t277_1)] ∧ Hp w wl11 [.blk b1 24 [.int .i64 a0.nodes, .int .i64 a0.from_, .int .i64 a0.to_, .slice A_a0_drains a0.drains.length c_a0_drains]])) ?_ ?_
                                        ·
                                          rintro _ wl11 ⟨t277_1, F, rfl, H⟩
                                          have R0 := H.ext
                                          unfold top_TopFlows_k1 at F
                                          by_cases hp10 : t277_1 = true
                                          ·
                                            replace F := ite_y hp10 F
                                            have hq10 : t277_1 = true := hp10
                                            refine CW.condT rfl hq10 ?_
                                            refine CW.seq fun K38 hK38 => ?_
                                            refine CW.region ?_
                                            refine LW.pure rfl rfl (RV.assign rfl) ?_
                                            refine LW.nil (hK38 _ _ ?_)
                                            refine CW.ret ?_
                                            obtain rfl := Option.some.inj F
                                            refine ⟨_, (ResOK.one rfl), ?_⟩
                                            refine ⟨(by first | rfl | simp), R0⟩
                                          ·
                                            replace F := ite_n hp10 F
                                            have hq10 : t277_1 = false := raw_f hp10
                                            refine CW.condF rfl hq10 ?_
                                            refine CW.skip (hK37 _ _ ?_)
                                            refine CW.seq fun K39 hK39 => ?_
                                            refine CW.seq fun K40 hK40 => ?_
                                            obtain ⟨x1, hbx1, hx1, F⟩ := ix_some F
                                            refine CW.region ?_
                                            refine LW.pure rfl rfl (RV.fieldAddr Tf24_3 rfl) ?_
                                            refine LW.pure rfl rfl (RV.load1 Tk22 rfl ((H.blk 0 rfl).cells.off 3) rfl) ?_
                                            refine LW.pure rfl rfl (RV.move rfl) ?_
                                            refine LW.pure rfl rfl (RV.indexAddr Ts22 rfl rfl hbx1 (h_a0_drains.addr_ hx1)) ?_
                                            refine LW.pure rfl rfl (RV.fieldAddr Tf52_2 rfl) ?_
                                            refine LW.pure rfl rfl (RV.load1 Tk3 rfl (((h_a0_drains.at_ hx1).ext R0).off 2) rfl) ?_
                                            refine LW.pure rfl rfl (RV.eqi rfl rfl) ?_
                                            refine LW.nil (hK40 _ _ ?_)
                                            by_cases hp11 : x1.width = 0
                                            ·
                                              replace F := ite_y hp11 F
                                              have hq11 := dec_t hp11
                                              refine CW.condT rfl hq11 ?_
                                              refine CW.seq fun K41 hK41 => ?_
                                              refine CW.region ?_
                                              refine LW.pure rfl rfl (RV.move rfl) ?_
                                              refine LW.pure rfl rfl (RV.not rfl) ?_
                                              refine LW.pure rfl rfl (RV.assign rfl) ?_
                                              refine LW.nil (hK41 _ _ ?_)
                                              refine CW.ret ?_
                                              obtain rfl := Option.some.inj F
                                              refine ⟨_, (ResOK.one rfl), ?_⟩
                                              refine ⟨(by first | rfl | simp), R0⟩
                                            ·
                                              replace F := ite_n hp11 F
                                              have hq11 := dec_f hp11
                                              refine CW.condF rfl hq11 ?_
                                              refine CW.skip (hK39 _ _ ?_)
                                              refine CW.seq fun K42 hK42 => ?_
                                              obtain ⟨r2, hr2, F⟩ := bnd_some F
                                              refine CW.region ?_
                                              refine LW.pure rfl rfl (RV.loadA [.int .i64 a0.nodes, .int .i64 a0.from_, .int .i64 a0.to_, .slice A_a0_drains a0.drains.length c_a0_drains] Tk24 rfl (H.blk 0 rfl).cells rfl rfl) ?_
                                              refine LW.pure rfl rfl (RV.move rfl) ?_
                                              refine LW.go rfl rfl (OW.call Tc41 rfl (drain_Widen_ok (a0 := a0) (a1 := a1) (a2 := (-1 : Int)) (h_a0_drains.ext R0) hr2) ?_)
                                              rintro _ w20 ⟨A76_0_drains, c76_0_drains, rfl, E16⟩
                                              refine ⟨_, rfl, ?_⟩
                                              replace H : Hp w w20 [.own A76_0_drains c76_0_drains 52 3 (List.map encDrain r2.1.drains), .blk b1 24 [.int .i64 a0.nodes, .int .i64 a0.from_, .int .i64 a0.to_, .slice A_a0_drains a0.drains.length c_a0_drains]] := H.append E16
                                              replace R0 := H.ext
                                              refine LW.pure rfl rfl (RV.move rfl) ?_
                                              refine LW.pure rfl rfl (RV.extract rfl rfl) ?_
                                              refine LW.pure rfl rfl (RV.extract rfl rfl) ?_
                                              refine LW.go rfl rfl (OW.alloc Tz24 fun b4 w21 N4 => ?_)
                                              replace H := H.new N4 N4.blk
                                              replace R0 := H.ext
                                              refine LW.go rfl rfl (OW.store Tk24 rfl rfl (H.blk 0 rfl) (off := 0) (vs := [.int .i64 r2.1.nodes, .int .i64 r2.1.from_, .int .i64 r2.1.to_, .slice A76_0_drains r2.1.drains.length c76_0_drains]) rfl rfl rfl rfl rfl fun w22 S2 => ?_)
                                              replace H : Hp w w22 [.blk b4 24 [.int .i64 r2.1.nodes, .int .i64 r2.1.from_, .int .i64 r2.1.to_, .slice A76_0_drains r2.1.drains.length c76_0_drains], .own A76_0_drains c76_0_drains 52 3 (List.map encDrain r2.1.drains), .blk b1 24 [.int .i64 a0.nodes, .int .i64 a0.from_, .int .i64 a0.to_, .slice A_a0_drains a0.drains.length c_a0_drains]] := H.stored 0 rfl S2
                                              replace R0 := H.ext
                                              refine LW.pure rfl rfl (RV.assign rfl) ?_
                                              refine LW.nil (hK42 _ _ ?_)
                                              refine CW.seq fun K43 hK43 => ?_
                                              obtain ⟨r3, hr3, F⟩ := bnd_some F
                                              refine CW.region ?_
                                              refine LW.pure rfl rfl (RV.loadA [.int .i64 r2.1.nodes, .int .i64 r2.1.from_, .int .i64 r2.1.to_, .slice A76_0_drains r2.1.drains.length c76_0_drains] Tk24 rfl (H.blk 0 rfl).cells rfl rfl) ?_
                                              refine LW.go rfl rfl (OW.call Tc18 rfl (drain_Most_ok (a0 := r2.1) (H.own 1 rfl).sl hr3) ?_)
                                              rintro _ w23 ⟨rfl, E17⟩
                                              refine ⟨_, rfl, ?_⟩
                                              replace H := H.grow E17
                                              replace R0 := H.ext
                                              refine LW.pure rfl rfl (RV.move rfl) ?_
                                              refine LW.pure rfl rfl (RV.extract rfl rfl) ?_
                                              refine LW.pure rfl rfl (RV.extract rfl rfl) ?_
                                              refine LW.pure rfl rfl (RV.assign rfl) ?_
                                              refine LW.pure rfl rfl (RV.assign rfl) ?_
                                              refine LW.nil (hK43 _ _ ?_)
                                              refine CW.seq fun K44 hK44 => ?_
                                              by_cases hp12 : r2.2 = 0
                                              ·
                                                replace F := ite_y hp12 F
                                                have hq12 := dec_t hp12
                                                by_cases hp13 : r3.2 = 0
                                                ·
                                                  replace F := ite_y hp13 F
                                                  have hq13 := dec_t hp13
                                                  refine CW.region ?_
                                                  refine LW.pure rfl rfl (RV.move rfl) ?_
                                                  refine LW.pure rfl rfl (RV.eqi rfl rfl) ?_
                                                  refine LW.pure rfl rfl (RV.move rfl) ?_
                                                  refine LW.pureYB rfl rfl rfl rfl hq12 (RV.move rfl) ?_
                                                  refine LW.pureYB rfl rfl rfl rfl hq12 (RV.eqi rfl rfl) ?_
                                                  refine LW.pure rfl rfl (RV.pickTB rfl hq12 rfl) ?_
                                                  refine LW.pure rfl rfl (RV.move rfl) ?_
                                                  refine LW.pureYB rfl rfl rfl rfl hq13 (RV.move rfl) ?_
                                                  refine LW.pureYB rfl rfl rfl rfl hq13 (RV.move rfl) ?_
                                                  refine LW.pureYB rfl rfl rfl rfl hq13 (RV.move rfl) ?_
                                                  refine LW.pureYB rfl rfl rfl rfl hq13 (RV.lss rfl rfl) ?_
                                                  refine LW.pureYB rfl rfl rfl rfl hq13 (RV.eqb Tb4 rfl rfl) ?_
                                                  refine LW.pure rfl rfl (RV.pickTB rfl hq13 rfl) ?_
                                                  refine LW.pure rfl rfl (RV.assign rfl) ?_
                                                  refine LW.nil (hK44 _ _ ?_)
                                                  refine CW.ret ?_
                                                  obtain rfl := Option.some.inj F
                                                  refine ⟨_, (ResOK.one rfl), ?_⟩
                                                  refine ⟨(by first | rfl | simp), R0⟩
                                                ·
                                                  replace F := ite_n hp13 F
                                                  have hq13 := dec_f hp13
                                                  refine CW.region ?_
                                                  refine LW.pure rfl rfl (RV.move rfl) ?_
                                                  refine LW.pure rfl rfl (RV.eqi rfl rfl) ?_
                                                  refine LW.pure rfl rfl (RV.move rfl) ?_
                                                  refine LW.pureYB rfl rfl rfl rfl hq12 (RV.move rfl) ?_
                                                  refine LW.pureYB rfl rfl rfl rfl hq12 (RV.eqi rfl rfl) ?_
                                                  refine LW.pure rfl rfl (RV.pickTB rfl hq12 rfl) ?_
                                                  refine LW.pure rfl rfl (RV.move rfl) ?_
                                                  refine LW.noB rfl rfl rfl rfl (ne_beq (v := false) hq13 rfl) ?_
                                                  refine LW.noB rfl rfl rfl rfl (ne_beq (v := false) hq13 rfl) ?_
                                                  refine LW.noB rfl rfl rfl rfl (ne_beq (v := false) hq13 rfl) ?_
                                                  refine LW.noB rfl rfl rfl rfl (ne_beq (v := false) hq13 rfl) ?_
                                                  refine LW.noB rfl rfl rfl rfl (ne_beq (v := false) hq13 rfl) ?_
                                                  refine LW.pure rfl rfl (RV.pickFB rfl hq13 rfl) ?_
                                                  refine LW.pure rfl rfl (RV.assign rfl) ?_
                                                  refine LW.nil (hK44 _ _ ?_)
                                                  refine CW.ret ?_
                                                  obtain rfl := Option.some.inj F
                                                  refine ⟨_, (ResOK.one rfl), ?_⟩
                                                  refine ⟨(by first | rfl | simp), R0⟩
                                              ·
                                                replace F := ite_n hp12 F
                                                have hq12 := dec_f hp12
                                                refine CW.region ?_
                                                refine LW.pure rfl rfl (RV.move rfl) ?_
                                                refine LW.pure rfl rfl (RV.eqi rfl rfl) ?_
                                                refine LW.pure rfl rfl (RV.move rfl) ?_
                                                refine LW.noB rfl rfl rfl rfl (ne_beq (v := false) hq12 rfl) ?_
                                                refine LW.noB rfl rfl rfl rfl (ne_beq (v := false) hq12 rfl) ?_
                                                refine LW.pure rfl rfl (RV.pickFB rfl hq12 rfl) ?_
                                                refine LW.pure rfl rfl (RV.move rfl) ?_
                                                refine LW.noB rfl rfl rfl rfl (ne_beq (v := false) rfl rfl) ?_
                                                refine LW.noB rfl rfl rfl rfl (ne_beq (v := false) rfl rfl) ?_
                                                refine LW.noB rfl rfl rfl rfl (ne_beq (v := false) rfl rfl) ?_
                                                refine LW.noB rfl rfl rfl rfl (ne_beq (v := false) rfl rfl) ?_
                                                refine LW.noB rfl rfl rfl rfl (ne_beq (v := false) rfl rfl) ?_
                                                refine LW.pure rfl rfl (RV.pickFB rfl rfl rfl) ?_
                                                refine LW.pure rfl rfl (RV.assign rfl) ?_
                                                refine LW.nil (hK44 _ _ ?_)
                                                refine CW.ret ?_
                                                obtain rfl := Option.some.inj F
                                                refine ⟨_, (ResOK.one rfl), ?_⟩
                                                refine ⟨(by first | rfl | simp), R0⟩
                                        ·
                                          intro K45 hK45 jK161
                                          by_cases hp14 : r5.2 = 0
                                          ·
                                            replace F := ite_y hp14 F
                                            have hq14 := dec_t hp14
                                            by_cases hp15 : (t25_1 == (decide (r4.1 = r1.1))) = true
                                            ·
                                              replace F := ite_y hp15 F
                                              have hq15 : (t25_1 == (decide (r4.1 = r1.1))) = true := hp15
                                              by_cases hp16 : t28_1 = true
                                              ·
                                                replace F := ite_y hp16 F
                                                have hq16 : t28_1 = true := hp16
                                                refine CW.region ?_
                                                refine LW.pure rfl rfl (RV.move rfl) ?_
                                                refine LW.pure rfl rfl (RV.nei rfl rfl) ?_
                                                refine LW.pure rfl rfl (RV.move rfl) ?_
                                                refine LW.pureYB rfl rfl rfl rfl (not_f hq14) (RV.move rfl) ?_
                                                refine LW.pureYB rfl rfl rfl rfl (not_f hq14) (RV.move rfl) ?_
                                                refine LW.pureYB rfl rfl rfl rfl (not_f hq14) (RV.move rfl) ?_
                                                refine LW.pureYB rfl rfl rfl rfl (not_f hq14) (RV.eqi rfl rfl) ?_
                                                refine LW.pureYB rfl rfl rfl rfl (not_f hq14) (RV.neb Tb4 rfl rfl) ?_
                                                refine LW.pure rfl rfl (RV.pickFB rfl (not_f hq14) rfl) ?_
                                                refine LW.pure rfl rfl (RV.move rfl) ?_
                                                refine LW.pureYB rfl rfl rfl rfl (not_f hq15) (RV.move rfl) ?_
                                                refine LW.pureYB rfl rfl rfl rfl (not_f hq15) (RV.move rfl) ?_
                                                refine LW.pureYB rfl rfl rfl rfl hq16 (RV.move rfl) ?_
                                                refine LW.pureYB rfl rfl rfl rfl (not_f hq15) (RV.pickTB rfl hq16 rfl) ?_
                                                refine LW.pure rfl rfl (RV.pickFB rfl (not_f hq15) rfl) ?_
                                                refine LW.nil (jK161 _ _ ⟨_, ?_, ⟨t25_1, F, rfl, H⟩⟩)
                                                exact ⟨rfl, rfl, rfl, rfl, rfl, rfl, trivial⟩
                                              ·
                                                replace F := ite_n hp16 F
                                                have hq16 : t28_1 = false := raw_f hp16
                                                refine CW.region ?_
                                                refine LW.pure rfl rfl (RV.move rfl) ?_
                                                refine LW.pure rfl rfl (RV.nei rfl rfl) ?_
                                                refine LW.pure rfl rfl (RV.move rfl) ?_
                                                refine LW.pureYB rfl rfl rfl rfl (not_f hq14) (RV.move rfl) ?_
                                                refine LW.pureYB rfl rfl rfl rfl (not_f hq14) (RV.move rfl) ?_
                                                refine LW.pureYB rfl rfl rfl rfl (not_f hq14) (RV.move rfl) ?_
                                                refine LW.pureYB rfl rfl rfl rfl (not_f hq14) (RV.eqi rfl rfl) ?_
                                                refine LW.pureYB rfl rfl rfl rfl (not_f hq14) (RV.neb Tb4 rfl rfl) ?_
                                                refine LW.pure rfl rfl (RV.pickFB rfl (not_f hq14) rfl) ?_
                                                refine LW.pure rfl rfl (RV.move rfl) ?_
                                                refine LW.pureYB rfl rfl rfl rfl (not_f hq15) (RV.move rfl) ?_
                                                refine LW.pureYB rfl rfl rfl rfl (not_f hq15) (RV.move rfl) ?_
                                                refine LW.noB rfl rfl rfl rfl (ne_beq (v := false) hq16 rfl) ?_
                                                refine LW.pureYB rfl rfl rfl rfl (not_f hq15) (RV.pickFB rfl hq16 rfl) ?_
                                                refine LW.pure rfl rfl (RV.pickFB rfl (not_f hq15) rfl) ?_
                                                refine LW.nil (jK161 _ _ ⟨_, ?_, ⟨false, F, rfl, H⟩⟩)
                                                exact ⟨rfl, rfl, rfl, rfl, rfl, rfl, trivial⟩
                                            ·
                                              replace F := ite_n hp15 F
                                              have hq15 : (t25_1 == (decide (r4.1 = r1.1))) = false := raw_f hp15
                                              refine CW.region ?_
                                              refine LW.pure rfl rfl (RV.move rfl) ?_
                                              refine LW.pure rfl rfl (RV.nei rfl rfl) ?_
                                              refine LW.pure rfl rfl (RV.move rfl) ?_
                                              refine LW.pureYB rfl rfl rfl rfl (not_f hq14) (RV.move rfl) ?_
                                              refine LW.pureYB rfl rfl rfl rfl (not_f hq14) (RV.move rfl) ?_
                                              refine LW.pureYB rfl rfl rfl rfl (not_f hq14) (RV.move rfl) ?_
                                              refine LW.pureYB rfl rfl rfl rfl (not_f hq14) (RV.eqi rfl rfl) ?_
                                              refine LW.pureYB rfl rfl rfl rfl (not_f hq14) (RV.neb Tb4 rfl rfl) ?_
                                              refine LW.pure rfl rfl (RV.pickFB rfl (not_f hq14) rfl) ?_
                                              refine LW.pure rfl rfl (RV.move rfl) ?_
                                              refine LW.noB rfl rfl rfl rfl (ne_beq (v := true) (not_t hq15) rfl) ?_
                                              refine LW.noB rfl rfl rfl rfl (ne_beq (v := true) (not_t hq15) rfl) ?_
                                              refine LW.noU rfl rfl rfl rfl ?_
                                              refine LW.noB rfl rfl rfl rfl (ne_beq (v := true) (not_t hq15) rfl) ?_
                                              refine LW.pure rfl rfl (RV.pickTB rfl (not_t hq15) rfl) ?_
                                              refine LW.nil (jK161 _ _ ⟨_, ?_, ⟨true, F, rfl, H⟩⟩)
                                              exact ⟨rfl, rfl, rfl, rfl, rfl, rfl, trivial⟩
                                          ·
                                            replace F := ite_n hp14 F
                                            have hq14 := dec_f hp14
                                            refine CW.region ?_
                                            refine LW.pure rfl rfl (RV.move rfl) ?_
                                            refine LW.pure rfl rfl (RV.nei rfl rfl) ?_
                                            refine LW.pure rfl rfl (RV.move rfl) ?_
                                            refine LW.noB rfl rfl rfl rfl (ne_beq (v := true) (not_t hq14) rfl) ?_
                                            refine LW.noB rfl rfl rfl rfl (ne_beq (v := true) (not_t hq14) rfl) ?_
                                            refine LW.noB rfl rfl rfl rfl (ne_beq (v := true) (not_t hq14) rfl) ?_
                                            refine LW.noB rfl rfl rfl rfl (ne_beq (v := true) (not_t hq14) rfl) ?_
                                            refine LW.noB rfl rfl rfl rfl (ne_beq (v := true) (not_t hq14) rfl) ?_
                                            refine LW.pure rfl rfl (RV.pickTB rfl (not_t hq14) rfl) ?_
                                            refine LW.pure rfl rfl (RV.move rfl) ?_
                                            refine LW.noB rfl rfl rfl rfl (ne_beq (v := true) rfl rfl) ?_
                                            refine LW.noB rfl rfl rfl rfl (ne_beq (v := true) rfl rfl) ?_
                                            refine LW.noU rfl rfl rfl rfl ?_
                                            refine LW.noB rfl rfl rfl rfl (ne_beq (v := true) rfl rfl) ?_
                                            refine LW.pure rfl rfl (RV.pickTB rfl rfl rfl) ?_
                                            refine LW.nil (jK161 _ _ ⟨_, ?_, ⟨true, F, rfl, H⟩⟩)
                                            exact ⟨rfl, rfl, rfl, rfl, rfl, rfl, trivial⟩
                                      ·
                                        intro K46 hK46 jK162
                                        refine CW.seq fun K47 hK47 => ?_
                                        refine CW.region ?_
                                        refine LW.pure rfl rfl (RV.assign rfl) ?_
                                        refine LW.nil (hK47 _ _ ?_)
                                        refine CW.block ?_
                                        refine CW.loop (fun meas ρ wl12 => ∃ (t28_3 : Bool) (t29_1 : Int), top_TopFlows_L1 a0 a1 r1 r4 t25_1 r5 meas t28_3 t29_1 = some res ∧ ρ = [(1, .int .i64 a1), (2, .pointer (some (⟨b1, 0, none⟩))), (4, .bool false), (8, .int .i64 r5.2), (9, .int .i64 r1.1), (24, .int .i64 r4.1), (25, .bool t25_1), (27, .slice A74_0 r5.1.length c74_0), (28, .bool t28_3), (29, .int .i64 t29_1)] ∧ Hp w wl12 [.own A74_0 c74_0 3 1 (List.map encN r5.1), .blk b1 24 [.int .i64 a0.nodes, .int .i64 a0.from_, .int .i64 a0.to_, .slice A_a0_drains a0.drains.length c_a0_drains]]) FU ⟨_, ?_, false, ((0 : Int)), F, rfl, H⟩ ?_
                                        · exact ⟨rfl, rfl, rfl, rfl, rfl, rfl, rfl, (look_slice rfl (by first | rfl | (simp; done) | omega | (simp; omega))), rfl, rfl, trivial⟩
                                        rintro mk1 _ wl12 ⟨t28_3, t29_1, F, rfl, H⟩
                                        have R0 := H.ext
                                        replace F := top_TopFlows_L1_s F
                                        obtain ⟨mk1, rfl, F⟩ := F
                                        generalize hrec1 : top_TopFlows_L1 a0 a1 r1 r4 t25_1 r5 mk1 = rec1 at F
                                        unfold top_TopFlows_B1 at F
                                        refine CW.seq fun K48 hK48 => ?_
                                        refine CW.seq fun K49 hK49 => ?_
                                        refine CW.region ?_
                                        refine LW.pure rfl rfl (RV.move rfl) ?_
                                        refine LW.pure rfl rfl (RV.move rfl) ?_
                                        refine LW.pure rfl rfl (RV.len Ts30 rfl) ?_
                                        refine LW.pure rfl rfl (RV.lss rfl rfl) ?_
                                        refine LW.nil (hK49 _ _ ?_)
                                        by_cases hp17 : t29_1 < ((r5.1.length : Int))
                                        ·
                                          replace F := ite_y hp17 F
                                          have hq17 := dec_t hp17
                                          refine CW.condT rfl hq17 ?_
                                          refine CW.skip (hK48 _ _ ?_)
                                          refine CW.seqJ (fun ρ wl13 => (∃ (t28_2 : Bool), top_TopFlows_k3 t29_1 rec1 t28_2 = some res ∧ ρ = [(1, .int .i64 a1), (2, .pointer (some (⟨b1, 0, none⟩))), (4, .bool false), (8, .int .i64 r5.2), (9, .int .i64 r1.1), (24, .int .i64 r4.1), (25, .bool t25_1), (27, .slice A74_0 r5.1.length c74_0), (28, .bool t28_2), (29, .int .i64 t29_1)] ∧ Hp w wl13 [.own A74_0 c74_0 3 1 (List.map encN r5.1), .blk b1 24 [.int .i64 a0.nodes, .int .i64 a0.from_, .int .i64 a0.to_, .slice A_a0_drains a0.drains.length c_a0_drains]])) ?_ ?_
                                          ·
                                            rintro _ wl13 ⟨t28_2, F, rfl, H⟩
                                            have R0 := H.ext
                                            unfold top_TopFlows_k3 at F
                                            obtain ⟨hg1, F⟩ := gd_some F
                                            refine CW.region ?_
                                            refine LW.pure rfl rfl (RV.move rfl) ?_
                                            refine LW.pure rfl rfl (RV.add rfl rfl hg1) ?_
                                            refine LW.pure rfl rfl (RV.assign rfl) ?_
                                            refine LW.nil ?_
                                            subst hrec1
                                            refine ⟨mk1, Nat.lt_succ_self _, _, ?_, t28_2, (t29_1 + 1), F, rfl, H⟩
                                            exact ⟨rfl, rfl, rfl, rfl, rfl, rfl, rfl, (look_slice rfl (by first | rfl | (simp; done) | omega | (simp; omega))), rfl, rfl, trivial⟩
                                          ·
                                            intro K50 hK50 jK172
                                            refine CW.block ?_
                                            by_cases hp18 : t28_3 = true
                                            ·
                                              replace F := ite_y hp18 F
                                              have hq18 : t28_3 = true := hp18
                                              refine CW.region ?_
                                              refine LW.pure rfl rfl (RV.move rfl) ?_
                                              refine LW.pure rfl rfl (RV.move rfl) ?_
                                              refine LW.noB rfl rfl rfl rfl (ne_beq (v := true) hq18 rfl) ?_
                                              refine LW.noB rfl rfl rfl rfl (ne_beq (v := true) hq18 rfl) ?_
                                              refine LW.noB rfl rfl rfl rfl (ne_beq (v := true) hq18 rfl) ?_
                                              refine LW.noB rfl rfl rfl rfl (ne_beq (v := true) hq18 rfl) ?_
                                              refine LW.noB rfl rfl rfl rfl (ne_beq (v := true) hq18 rfl) ?_
                                              refine LW.noB rfl rfl rfl rfl (ne_beq (v := true) hq18 rfl) ?_
                                              refine LW.pure rfl rfl (RV.pickTB rfl hq18 rfl) ?_
                                              refine LW.pure rfl rfl (RV.assign rfl) ?_
                                              refine LW.nil (jK172 _ _ ⟨_, ?_, ⟨true, F, rfl, H⟩⟩)
                                              exact ⟨rfl, rfl, rfl, rfl, rfl, rfl, rfl, (look_slice rfl (by first | rfl | (simp; done) | omega | (simp; omega))), rfl, rfl, trivial⟩
                                            ·
                                              replace F := ite_n hp18 F
                                              have hq18 : t28_3 = false := raw_f hp18
                                              obtain ⟨x2, hbx2, hx2, F⟩ := ix_some F
                                              refine CW.region ?_
                                              refine LW.pure rfl rfl (RV.move rfl) ?_
                                              refine LW.pure rfl rfl (RV.move rfl) ?_
                                              refine LW.pureYB rfl rfl rfl rfl hq18 (RV.move rfl) ?_
                                              refine LW.pureYB rfl rfl rfl rfl hq18 (RV.move rfl) ?_
                                              refine LW.pureYB rfl rfl rfl rfl hq18 (RV.indexAddr Ts30 rfl rfl hbx2 ((H.own 0 rfl).sl.addr_ hx2)) ?_
                                              refine LW.pureYB rfl rfl rfl rfl hq18 (RV.load1 Tk3 rfl ((H.own 0 rfl).sl.at_ hx2) rfl) ?_
                                              refine LW.pureYB rfl rfl rfl rfl hq18 (RV.move rfl) ?_
                                              refine LW.pureYB rfl rfl rfl rfl hq18 (RV.eqi rfl rfl) ?_
                                              refine LW.pure rfl rfl (RV.pickFB rfl hq18 rfl) ?_
                                              refine LW.pure rfl rfl (RV.assign rfl) ?_
                                              refine LW.nil (jK172 _ _ ⟨_, ?_, ⟨(decide (x2 = a1)), F, rfl, H⟩⟩)
                                              exact ⟨rfl, rfl, rfl, rfl, rfl, rfl, rfl, (look_slice rfl (by first | rfl | (simp; done) | omega | (simp; omega))), rfl, rfl, trivial⟩
                                        ·
                                          replace F := ite_n hp17 F
                                          have hq17 := dec_f hp17
                                          refine CW.condF rfl hq17 ?_
                                          replace H := H.pick (L' := [.blk b1 24 [.int .i64 a0.nodes, .int .i64 a0.from_, .int .i64 a0.to_, .slice A_a0_drains a0.drains.length c_a0_drains]]) [1] (by decide) rfl
                                          replace R0 := H.ext
                                          refine CW.exit (jK162 _ _ ⟨_, ?_, ⟨t28_3, F, rfl, H⟩⟩)
                                          exact ⟨rfl, rfl, rfl, rfl, rfl, rfl, rfl, rfl, trivial⟩
                                    ·
                                      intro K51 hK51 jK173
                                      refine CW.seq fun K52 hK52 => ?_
                                      refine CW.region ?_
                                      refine LW.pure rfl rfl (RV.assign rfl) ?_
                                      refine LW.nil (hK52 _ _ ?_)
                                      refine CW.block ?_
                                      refine CW.loop (fun meas ρ wl14 => ∃ (t25_3 : Bool) (t26_1 : Int), top_TopFlows_L2 a0 a1 r1 r6 r4 meas t25_3 t26_1 = some res ∧ ρ = [(1, .int .i64 a1), (2, .pointer (some (⟨b1, 0, none⟩))), (4, .bool false), (9, .int .i64 r1.1), (22, .slice A69_0 r6.1.length c69_0), (24, .int .i64 r4.1), (25, .bool t25_3), (26, .int .i64 t26_1)] ∧ Hp w wl14 [.own A69_0 c69_0 3 1 (List.map encN r6.1), .blk b1 24 [.int .i64 a0.nodes, .int .i64 a0.from_, .int .i64 a0.to_, .slice A_a0_drains a0.drains.length c_a0_drains]]) FU ⟨_, ?_, false, ((0 : Int)), F, rfl, H⟩ ?_
                                      · exact ⟨rfl, rfl, rfl, rfl, (look_slice rfl (by first | rfl | (simp; done) | omega | (simp; omega))), rfl, rfl, rfl, trivial⟩
                                      rintro mk2 _ wl14 ⟨t25_3, t26_1, F, rfl, H⟩
                                      have R0 := H.ext
                                      replace F := top_TopFlows_L2_s F
                                      obtain ⟨mk2, rfl, F⟩ := F
                                      generalize hrec2 : top_TopFlows_L2 a0 a1 r1 r6 r4 mk2 = rec2 at F
                                      unfold top_TopFlows_B2 at F
                                      refine CW.seq fun K53 hK53 => ?_
                                      refine CW.seq fun K54 hK54 => ?_
                                      refine CW.region ?_
                                      refine LW.pure rfl rfl (RV.move rfl) ?_
                                      refine LW.pure rfl rfl (RV.move rfl) ?_
                                      refine LW.pure rfl rfl (RV.len Ts30 rfl) ?_
                                      refine LW.pure rfl rfl (RV.lss rfl rfl) ?_
                                      refine LW.nil (hK54 _ _ ?_)
                                      by_cases hp19 : t26_1 < ((r6.1.length : Int))
                                      ·
                                        replace F := ite_y hp19 F
                                        have hq19 := dec_t hp19
                                        refine CW.condT rfl hq19 ?_
                                        refine CW.skip (hK53 _ _ ?_)
                                        refine CW.seqJ (fun ρ wl15 => (∃ (t25_2 : Bool), top_TopFlows_k5 t26_1 rec2 t25_2 = some res ∧ ρ = [(1, .int .i64 a1), (2, .pointer (some (⟨b1, 0, none⟩))), (4, .bool false), (9, .int .i64 r1.1), (22, .slice A69_0 r6.1.length c69_0), (24, .int .i64 r4.1), (25, .bool t25_2), (26, .int .i64 t26_1)] ∧ Hp w wl15 [.own A69_0 c69_0 3 1 (List.map encN r6.1), .blk b1 24 [.int .i64 a0.nodes, .int .i64 a0.from_, .int .i64 a0.to_, .slice A_a0_drains a0.drains.length c_a0_drains]])) ?_ ?_
                                        ·
                                          rintro _ wl15 ⟨t25_2, F, rfl, H⟩
                                          have R0 := H.ext
                                          unfold top_TopFlows_k5 at F
                                          obtain ⟨hg2, F⟩ := gd_some F
                                          refine CW.region ?_
                                          refine LW.pure rfl rfl (RV.move rfl) ?_
                                          refine LW.pure rfl rfl (RV.add rfl rfl hg2) ?_
                                          refine LW.pure rfl rfl (RV.assign rfl) ?_
                                          refine LW.nil ?_
                                          subst hrec2
                                          refine ⟨mk2, Nat.lt_succ_self _, _, ?_, t25_2, (t26_1 + 1), F, rfl, H⟩
                                          exact ⟨rfl, rfl, rfl, rfl, (look_slice rfl (by first | rfl | (simp; done) | omega | (simp; omega))), rfl, rfl, rfl, trivial⟩
                                        ·
                                          intro K55 hK55 jK183
                                          refine CW.block ?_
                                          by_cases hp20 : t25_3 = true
                                          ·
                                            replace F := ite_y hp20 F
                                            have hq20 : t25_3 = true := hp20
                                            refine CW.region ?_
                                            refine LW.pure rfl rfl (RV.move rfl) ?_
                                            refine LW.pure rfl rfl (RV.move rfl) ?_
                                            refine LW.noB rfl rfl rfl rfl (ne_beq (v := true) hq20 rfl) ?_
                                            refine LW.noB rfl rfl rfl rfl (ne_beq (v := true) hq20 rfl) ?_
                                            refine LW.noB rfl rfl rfl rfl (ne_beq (v := true) hq20 rfl) ?_
                                            refine LW.noB rfl rfl rfl rfl (ne_beq (v := true) hq20 rfl) ?_
                                            refine LW.noB rfl rfl rfl rfl (ne_beq (v := true) hq20 rfl) ?_
                                            refine LW.noB rfl rfl rfl rfl (ne_beq (v := true) hq20 rfl) ?_
                                            refine LW.pure rfl rfl (RV.pickTB rfl hq20 rfl) ?_
                                            refine LW.pure rfl rfl (RV.assign rfl) ?_
                                            refine LW.nil (jK183 _ _ ⟨_, ?_, ⟨true, F, rfl, H⟩⟩)
                                            exact ⟨rfl, rfl, rfl, rfl, (look_slice rfl (by first | rfl | (simp; done) | omega | (simp; omega))), rfl, rfl, rfl, trivial⟩
                                          ·
                                            replace F := ite_n hp20 F
                                            have hq20 : t25_3 = false := raw_f hp20
                                            obtain ⟨x3, hbx3, hx3, F⟩ := ix_some F
                                            refine CW.region ?_
                                            refine LW.pure rfl rfl (RV.move rfl) ?_
                                            refine LW.pure rfl rfl (RV.move rfl) ?_
                                            refine LW.pureYB rfl rfl rfl rfl hq20 (RV.move rfl) ?_
                                            refine LW.pureYB rfl rfl rfl rfl hq20 (RV.move rfl) ?_
                                            refine LW.pureYB rfl rfl rfl rfl hq20 (RV.indexAddr Ts30 rfl rfl hbx3 ((H.own 0 rfl).sl.addr_ hx3)) ?_
                                            refine LW.pureYB rfl rfl rfl rfl hq20 (RV.load1 Tk3 rfl ((H.own 0 rfl).sl.at_ hx3) rfl) ?_
                                            refine LW.pureYB rfl rfl rfl rfl hq20 (RV.move rfl) ?_
                                            refine LW.pureYB rfl rfl rfl rfl hq20 (RV.eqi rfl rfl) ?_
                                            refine LW.pure rfl rfl (RV.pickFB rfl hq20 rfl) ?_
                                            refine LW.pure rfl rfl (RV.assign rfl) ?_
                                            refine LW.nil (jK183 _ _ ⟨_, ?_, ⟨(decide (x3 = a1)), F, rfl, H⟩⟩)
                                            exact ⟨rfl, rfl, rfl, rfl, (look_slice rfl (by first | rfl | (simp; done) | omega | (simp; omega))), rfl, rfl, rfl, trivial⟩
                                      ·
                                        replace F := ite_n hp19 F
                                        have hq19 := dec_f hp19
                                        refine CW.condF rfl hq19 ?_
                                        replace H := H.pick (L' := [.blk b1 24 [.int .i64 a0.nodes, .int .i64 a0.from_, .int .i64 a0.to_, .slice A_a0_drains a0.drains.length c_a0_drains]]) [1] (by decide) rfl
                                        replace R0 := H.ext
                                        refine CW.exit (jK173 _ _ ⟨_, ?_, ⟨t25_3, F, rfl, H⟩⟩)
                                        exact ⟨rfl, rfl, rfl, rfl, rfl, rfl, trivial⟩
                                ·
                                  intro K56 hK56 jK184
                                  by_cases hp21 : r6.2 = 0
                                  ·
                                    replace F := ite_y hp21 F
                                    have hq21 := dec_t hp21
                                    by_cases hp22 : t10_1 = 0
                                    ·
                                      replace F := ite_y hp22 F
                                      have hq22 := dec_t hp22
                                      by_cases hp23 : r4.2 = 0
                                      ·
                                        replace F := ite_y hp23 F
                                        have hq23 := dec_t hp23
                                        refine CW.region ?_
                                        refine LW.pure rfl rfl (RV.move rfl) ?_
                                        refine LW.pure rfl rfl (RV.nei rfl rfl) ?_
                                        refine LW.pure rfl rfl (RV.move rfl) ?_
                                        refine LW.pureYB rfl rfl rfl rfl (not_f hq21) (RV.move rfl) ?_
                                        refine LW.pureYB rfl rfl rfl rfl (not_f hq21) (RV.nei rfl rfl) ?_
                                        refine LW.pure rfl rfl (RV.pickFB rfl (not_f hq21) rfl) ?_
                                        refine LW.pure rfl rfl (RV.move rfl) ?_
                                        refine LW.pureYB rfl rfl rfl rfl (not_f hq22) (RV.move rfl) ?_
                                        refine LW.pureYB rfl rfl rfl rfl (not_f hq22) (RV.nei rfl rfl) ?_
                                        refine LW.pure rfl rfl (RV.pickFB rfl (not_f hq22) rfl) ?_
                                        refine LW.pure rfl rfl (RV.move rfl) ?_
                                        refine LW.pureYB rfl rfl rfl rfl (not_f hq23) (RV.move rfl) ?_
                                        refine LW.pureYB rfl rfl rfl rfl (not_f hq23) (RV.move rfl) ?_
                                        refine LW.pureYB rfl rfl rfl rfl (not_f hq23) (RV.gtr rfl rfl) ?_
                                        refine LW.pure rfl rfl (RV.pickFB rfl (not_f hq23) rfl) ?_
                                        replace H := H.pick (L' := [.own A69_0 c69_0 3 1 (List.map encN r6.1), .blk b1 24 [.int .i64 a0.nodes, .int .i64 a0.from_, .int .i64 a0.to_, .slice A_a0_drains a0.drains.length c_a0_drains]]) [0, 2] (by decide) rfl
                                        replace R0 := H.ext
                                        refine LW.nil (jK184 _ _ ⟨_, ?_, ⟨(decide (r1.1 < r4.1)), F, rfl, H⟩⟩)
                                        exact ⟨rfl, rfl, rfl, rfl, (look_slice rfl (by first | rfl | (simp; done) | omega | (simp; omega))), rfl, rfl, trivial⟩
                                      ·
                                        replace F := ite_n hp23 F
                                        have hq23 := dec_f hp23
                                        refine CW.region ?_
                                        refine LW.pure rfl rfl (RV.move rfl) ?_
                                        refine LW.pure rfl rfl (RV.nei rfl rfl) ?_
                                        refine LW.pure rfl rfl (RV.move rfl) ?_
                                        refine LW.pureYB rfl rfl rfl rfl (not_f hq21) (RV.move rfl) ?_
                                        refine LW.pureYB rfl rfl rfl rfl (not_f hq21) (RV.nei rfl rfl) ?_
                                        refine LW.pure rfl rfl (RV.pickFB rfl (not_f hq21) rfl) ?_
                                        refine LW.pure rfl rfl (RV.move rfl) ?_
                                        refine LW.pureYB rfl rfl rfl rfl (not_f hq22) (RV.move rfl) ?_
                                        refine LW.pureYB rfl rfl rfl rfl (not_f hq22) (RV.nei rfl rfl) ?_
                                        refine LW.pure rfl rfl (RV.pickFB rfl (not_f hq22) rfl) ?_
                                        refine LW.pure rfl rfl (RV.move rfl) ?_
                                        refine LW.noB rfl rfl rfl rfl (ne_beq (v := true) (not_t hq23) rfl) ?_
                                        refine LW.noB rfl rfl rfl rfl (ne_beq (v := true) (not_t hq23) rfl) ?_
                                        refine LW.noB rfl rfl rfl rfl (ne_beq (v := true) (not_t hq23) rfl) ?_
                                        refine LW.pure rfl rfl (RV.pickTB rfl (not_t hq23) rfl) ?_
                                        replace H := H.pick (L' := [.own A69_0 c69_0 3 1 (List.map encN r6.1), .blk b1 24 [.int .i64 a0.nodes, .int .i64 a0.from_, .int .i64 a0.to_, .slice A_a0_drains a0.drains.length c_a0_drains]]) [0, 2] (by decide) rfl
                                        replace R0 := H.ext
                                        refine LW.nil (jK184 _ _ ⟨_, ?_, ⟨true, F, rfl, H⟩⟩)
                                        exact ⟨rfl, rfl, rfl, rfl, (look_slice rfl (by first | rfl | (simp; done) | omega | (simp; omega))), rfl, rfl, trivial⟩
                                    ·
                                      replace F := ite_n hp22 F
                                      have hq22 := dec_f hp22
                                      refine CW.region ?_
                                      refine LW.pure rfl rfl (RV.move rfl) ?_
                                      refine LW.pure rfl rfl (RV.nei rfl rfl) ?_
                                      refine LW.pure rfl rfl (RV.move rfl) ?_
                                      refine LW.pureYB rfl rfl rfl rfl (not_f hq21) (RV.move rfl) ?_
                                      refine LW.pureYB rfl rfl rfl rfl (not_f hq21) (RV.nei rfl rfl) ?_
                                      refine LW.pure rfl rfl (RV.pickFB rfl (not_f hq21) rfl) ?_
                                      refine LW.pure rfl rfl (RV.move rfl) ?_
                                      refine LW.noB rfl rfl rfl rfl (ne_beq (v := true) (not_t hq22) rfl) ?_
                                      refine LW.noB rfl rfl rfl rfl (ne_beq (v := true) (not_t hq22) rfl) ?_
                                      refine LW.pure rfl rfl (RV.pickTB rfl (not_t hq22) rfl) ?_
                                      refine LW.pure rfl rfl (RV.move rfl) ?_
                                      refine LW.noB rfl rfl rfl rfl (ne_beq (v := true) rfl rfl) ?_
                                      refine LW.noB rfl rfl rfl rfl (ne_beq (v := true) rfl rfl) ?_
                                      refine LW.noB rfl rfl rfl rfl (ne_beq (v := true) rfl rfl) ?_
                                      refine LW.pure rfl rfl (RV.pickTB rfl rfl rfl) ?_
                                      replace H := H.pick (L' := [.own A69_0 c69_0 3 1 (List.map encN r6.1), .blk b1 24 [.int .i64 a0.nodes, .int .i64 a0.from_, .int .i64 a0.to_, .slice A_a0_drains a0.drains.length c_a0_drains]]) [0, 2] (by decide) rfl
                                      replace R0 := H.ext
                                      refine LW.nil (jK184 _ _ ⟨_, ?_, ⟨true, F, rfl, H⟩⟩)
                                      exact ⟨rfl, rfl, rfl, rfl, (look_slice rfl (by first | rfl | (simp; done) | omega | (simp; omega))), rfl, rfl, trivial⟩
                                  ·
                                    replace F := ite_n hp21 F
                                    have hq21 := dec_f hp21
                                    refine CW.region ?_
                                    refine LW.pure rfl rfl (RV.move rfl) ?_
                                    refine LW.pure rfl rfl (RV.nei rfl rfl) ?_
                                    refine LW.pure rfl rfl (RV.move rfl) ?_
                                    refine LW.noB rfl rfl rfl rfl (ne_beq (v := true) (not_t hq21) rfl) ?_
                                    refine LW.noB rfl rfl rfl rfl (ne_beq (v := true) (not_t hq21) rfl) ?_
                                    refine LW.pure rfl rfl (RV.pickTB rfl (not_t hq21) rfl) ?_
                                    refine LW.pure rfl rfl (RV.move rfl) ?_
                                    refine LW.noB rfl rfl rfl rfl (ne_beq (v := true) rfl rfl) ?_
                                    refine LW.noB rfl rfl rfl rfl (ne_beq (v := true) rfl rfl) ?_
                                    refine LW.pure rfl rfl (RV.pickTB rfl rfl rfl) ?_
                                    refine LW.pure rfl rfl (RV.move rfl) ?_
                                    refine LW.noB rfl rfl rfl rfl (ne_beq (v := true) rfl rfl) ?_
                                    refine LW.noB rfl rfl rfl rfl (ne_beq (v := true) rfl rfl) ?_
                                    refine LW.noB rfl rfl rfl rfl (ne_beq (v := true) rfl rfl) ?_
                                    refine LW.pure rfl rfl (RV.pickTB rfl rfl rfl) ?_
                                    replace H := H.pick (L' := [.own A69_0 c69_0 3 1 (List.map encN r6.1), .blk b1 24 [.int .i64 a0.nodes, .int .i64 a0.from_, .int .i64 a0.to_, .slice A_a0_drains a0.drains.length c_a0_drains]]) [0, 2] (by decide) rfl
                                    replace R0 := H.ext
                                    refine LW.nil (jK184 _ _ ⟨_, ?_, ⟨true, F, rfl, H⟩⟩)
                                    exact ⟨rfl, rfl, rfl, rfl, (look_slice rfl (by first | rfl | (simp; done) | omega | (simp; omega))), rfl, rfl, trivial⟩
                              ·
                                intro K57 hK57 jK185
                                obtain ⟨x4, hbx4, hx4, F⟩ := ix_some F
                                obtain ⟨hg3, F⟩ := gd_some F
                                obtain ⟨r7, hr7, F⟩ := bnd_some F
                                refine CW.draw [14] (fun _ => True) (.cons 0 1 (.cons 1 1 (.cons 2 1 (.cons 3 1 (.cons 4 1 (.cons 5 1 (.cons 6 1 (.cons 7 1 (.cons 8 1 (.alt 9 (.cons 10 1 (.cons 11 1 (.cons 12 2 (.cons 13 0 (.cons 14 0 (.cons 15 2 .nil)))))) (.cons 13 0 (.cons 9 0 (.cons 10 1 (.cons 11 1 (.cons 12 2 (.cons 14 0 (.cons 15 2 .nil))))))))))))))))) mixed (by kernel_rfl) fun w24 E18 => ?_
                                replace H := H.grow E18
                                replace R0 := H.ext
                                refine DW.fix rfl rfl rfl (fun _ EQ => RV.loadA [.int .i64 a0.nodes, .int .i64 a0.from_, .int .i64 a0.to_, .slice A_a0_drains a0.drains.length c_a0_drains] Tk24 rfl ((H.grow EQ).blk 1 rfl).cells rfl rfl) ?_
                                refine DW.fix rfl rfl rfl (fun _ EQ => RV.move rfl) ?_
                                refine DW.fix rfl rfl rfl (fun _ EQ => RV.fieldAddr Tf24_3 rfl) ?_
                                refine DW.fix rfl rfl rfl (fun _ EQ => RV.load1 Tk22 rfl (((H.grow EQ).blk 1 rfl).cells.off 3) rfl) ?_
                                refine DW.fix rfl rfl rfl (fun _ EQ => RV.move rfl) ?_
                                refine DW.fix rfl rfl rfl (fun _ EQ => RV.indexAddr Ts22 rfl rfl hbx4 (h_a0_drains.addr_ hx4)) ?_
                                refine DW.fix rfl rfl rfl (fun _ EQ => RV.fieldAddr Tf52_2 rfl) ?_
                                refine DW.fix rfl rfl rfl (fun _ EQ => RV.load1 Tk3 rfl (((h_a0_drains.at_ hx4).ext (R0.trans EQ)).off 2) rfl) ?_
                                refine DW.fix rfl rfl rfl (fun _ EQ => RV.neg rfl hg3) ?_
                                refine DW.alt ?_ ?_
                                ·
                                  refine DW.sole rfl rfl rfl (OW.call Tc41 rfl (drain_Widen_ok (a0 := a0) (a1 := a1) (a2 := -x4.width) (h_a0_drains.ext R0) hr7) ?_)
                                  rintro _ w25 ⟨A80_0_drains, c80_0_drains, rfl, E19⟩
                                  refine ⟨_, rfl, fun _ => E19.ext, ModX.ext E19.ext, ?_⟩
                                  replace H : Hp w w25 [.own A80_0_drains c80_0_drains 52 3 (List.map encDrain r7.1.drains), .own A69_0 c69_0 3 1 (List.map encN r6.1), .blk b1 24 [.int .i64 a0.nodes, .int .i64 a0.from_, .int .i64 a0.to_, .slice A_a0_drains a0.drains.length c_a0_drains]] := H.append E19
                                  replace R0 := H.ext
                                  refine DW.fix rfl rfl rfl (fun _ EQ => RV.move rfl) ?_
                                  refine DW.fix rfl rfl rfl (fun _ EQ => RV.extract rfl rfl) ?_
                                  refine DW.thru rfl rfl rfl (fun _ EQ => RV.extract rfl rfl) ?_
                                  refine DW.sole rfl rfl rfl (OW.alloc Tz24 fun b5 w26 N5 => ?_)
                                  refine ⟨fun _ => N5.ext, ModX.ext N5.ext, ?_⟩
                                  replace H := H.new N5 N5.blk
                                  replace R0 := H.ext
                                  refine DW.sole rfl rfl rfl (OW.store Tk24 rfl rfl (H.blk 0 rfl) (off := 0) (vs := [.int .i64 r7.1.nodes, .int .i64 r7.1.from_, .int .i64 r7.1.to_, .slice A80_0_drains r7.1.drains.length c80_0_drains]) rfl rfl rfl rfl rfl fun w27 S3 => ?_)
                                  refine ⟨fun h => absurd h (by decide), S3.modx trivial, ?_⟩
                                  replace H : Hp w w27 [.blk b5 24 [.int .i64 r7.1.nodes, .int .i64 r7.1.from_, .int .i64 r7.1.to_, .slice A80_0_drains r7.1.drains.length c80_0_drains], .own A80_0_drains c80_0_drains 52 3 (List.map encDrain r7.1.drains), .own A69_0 c69_0 3 1 (List.map encN r6.1), .blk b1 24 [.int .i64 a0.nodes, .int .i64 a0.from_, .int .i64 a0.to_, .slice A_a0_drains a0.drains.length c_a0_drains]] := H.stored 0 rfl S3
                                  replace R0 := H.ext
                                  refine DW.thru rfl rfl rfl (fun _ EQ => RV.assign rfl) ?_
                                  replace H := H.pick (L' := [.own A69_0 c69_0 3 1 (List.map encN r6.1), .own A80_0_drains c80_0_drains 52 3 (List.map encDrain r7.1.drains), .blk b1 24 [.int .i64 a0.nodes, .int .i64 a0.from_, .int .i64 a0.to_, .slice A_a0_drains a0.drains.length c_a0_drains], .blk b5 24 [.int .i64 r7.1.nodes, .int .i64 r7.1.from_, .int .i64 r7.1.to_, .slice A80_0_drains r7.1.drains.length c80_0_drains]]) [2, 1, 3, 0] (by decide) rfl
                                  replace R0 := H.ext
                                  refine DW.nil (jK185 _ _ ⟨_, ?_, ⟨r7.2, r7.1.nodes, r7.1.from_, r7.1.to_, r7.1.drains, b5, A80_0_drains, c80_0_drains, F, rfl, H⟩⟩)
                                  exact ⟨rfl, rfl, rfl, rfl, rfl, rfl, (look_slice rfl (by first | rfl | (simp; done) | omega | (simp; omega))), rfl, trivial⟩
                                ·
                                  refine DW.sole rfl rfl rfl (OW.alloc Tz24 fun b6 w28 N6 => ?_)
                                  refine ⟨fun _ => N6.ext, ModX.ext N6.ext, ?_⟩
                                  replace H := H.new N6 N6.blk
                                  replace R0 := H.ext
                                  refine DW.sole rfl rfl rfl (OW.call Tc41 rfl (drain_Widen_ok (a0 := a0) (a1 := a1) (a2 := -x4.width) (h_a0_drains.ext R0) hr7) ?_)
                                  rintro _ w29 ⟨A81_0_drains, c81_0_drains, rfl, E20⟩
                                  refine ⟨_, rfl, fun _ => E20.ext, ModX.ext E20.ext, ?_⟩
                                  replace H : Hp w w29 [.own A81_0_drains c81_0_drains 52 3 (List.map encDrain r7.1.drains), .blk b6 24 [.int .i64 0, .int .i64 0, .int .i64 0, .slice none 0 0], .own A69_0 c69_0 3 1 (List.map encN r6.1), .blk b1 24 [.int .i64 a0.nodes, .int .i64 a0.from_, .int .i64 a0.to_, .slice A_a0_drains a0.drains.length c_a0_drains]] := H.append E20
                                  replace R0 := H.ext
                                  refine DW.fix rfl rfl rfl (fun _ EQ => RV.move rfl) ?_
                                  refine DW.fix rfl rfl rfl (fun _ EQ => RV.extract rfl rfl) ?_
                                  refine DW.thru rfl rfl rfl (fun _ EQ => RV.extract rfl rfl) ?_
                                  refine DW.sole rfl rfl rfl (OW.store Tk24 rfl rfl (H.blk 1 rfl) (off := 0) (vs := [.int .i64 r7.1.nodes, .int .i64 r7.1.from_, .int .i64 r7.1.to_, .slice A81_0_drains r7.1.drains.length c81_0_drains]) rfl rfl rfl rfl rfl fun w30 S4 => ?_)
                                  refine ⟨fun h => absurd h (by decide), S4.modx trivial, ?_⟩
                                  replace H : Hp w w30 [.own A81_0_drains c81_0_drains 52 3 (List.map encDrain r7.1.drains), .blk b6 24 [.int .i64 r7.1.nodes, .int .i64 r7.1.from_, .int .i64 r7.1.to_, .slice A81_0_drains r7.1.drains.length c81_0_drains], .own A69_0 c69_0 3 1 (List.map encN r6.1), .blk b1 24 [.int .i64 a0.nodes, .int .i64 a0.from_, .int .i64 a0.to_, .slice A_a0_drains a0.drains.length c_a0_drains]] := H.stored 1 rfl S4
                                  replace R0 := H.ext
                                  refine DW.thru rfl rfl rfl (fun _ EQ => RV.assign rfl) ?_
                                  replace H := H.pick (L' := [.own A69_0 c69_0 3 1 (List.map encN r6.1), .own A81_0_drains c81_0_drains 52 3 (List.map encDrain r7.1.drains), .blk b1 24 [.int .i64 a0.nodes, .int .i64 a0.from_, .int .i64 a0.to_, .slice A_a0_drains a0.drains.length c_a0_drains], .blk b6 24 [.int .i64 r7.1.nodes, .int .i64 r7.1.from_, .int .i64 r7.1.to_, .slice A81_0_drains r7.1.drains.length c81_0_drains]]) [2, 0, 3, 1] (by decide) rfl
                                  replace R0 := H.ext
                                  refine DW.nil (jK185 _ _ ⟨_, ?_, ⟨r7.2, r7.1.nodes, r7.1.from_, r7.1.to_, r7.1.drains, b6, A81_0_drains, c81_0_drains, F, rfl, H⟩⟩)
                                  exact ⟨rfl, rfl, rfl, rfl, rfl, rfl, (look_slice rfl (by first | rfl | (simp; done) | omega | (simp; omega))), rfl, trivial⟩
                          ·
                            intro K58 hK58 jK186
                            by_cases hp24 : a1 < 0
                            ·
                              replace F := ite_y hp24 F
                              have hq24 := dec_t hp24
                              refine CW.region ?_
                              refine LW.pure rfl rfl (RV.move rfl) ?_
                              refine LW.pure rfl rfl (RV.lss rfl rfl) ?_
                              refine LW.pure rfl rfl (RV.move rfl) ?_
                              refine LW.noB rfl rfl rfl rfl (ne_beq (v := true) hq24 rfl) ?_
                              refine LW.noB rfl rfl rfl rfl (ne_beq (v := true) hq24 rfl) ?_
                              refine LW.noB rfl rfl rfl rfl (ne_beq (v := true) hq24 rfl) ?_
                              refine LW.noB rfl rfl rfl rfl (ne_beq (v := true) hq24 rfl) ?_
                              refine LW.noB rfl rfl rfl rfl (ne_beq (v := true) hq24 rfl) ?_
                              refine LW.pure rfl rfl (RV.pickTB rfl hq24 rfl) ?_
                              refine LW.nil (jK186 _ _ ⟨_, ?_, ⟨true, F, rfl, H⟩⟩)
                              exact ⟨rfl, rfl, rfl, rfl, rfl, trivial⟩
                            ·
                              replace F := ite_n hp24 F
                              have hq24 := dec_f hp24
                              refine CW.region ?_
                              refine LW.pure rfl rfl (RV.move rfl) ?_
                              refine LW.pure rfl rfl (RV.lss rfl rfl) ?_
                              refine LW.pure rfl rfl (RV.move rfl) ?_
                              refine LW.pureYB rfl rfl rfl rfl hq24 (RV.move rfl) ?_
                              refine LW.pureYB rfl rfl rfl rfl hq24 (RV.fieldAddr Tf24_3 rfl) ?_
                              refine LW.pureYB rfl rfl rfl rfl hq24 (RV.load1 Tk22 rfl ((H.blk 0 rfl).cells.off 3) rfl) ?_
                              refine LW.pureYB rfl rfl rfl rfl hq24 (RV.len Ts22 rfl) ?_
                              refine LW.pureYB rfl rfl rfl rfl hq24 (RV.geq rfl rfl) ?_
                              refine LW.pure rfl rfl (RV.pickFB rfl hq24 rfl) ?_
                              refine LW.nil (jK186 _ _ ⟨_, ?_, ⟨(decide (((a0.drains.length : Int)) ≤ a1)), F, rfl, H⟩⟩)
                              exact ⟨rfl, rfl, rfl, rfl, rfl, trivial⟩
                      ·
                        intro K59 hK59 jK187
                        by_cases hp25 : r11.2 = 0
                        ·
                          replace F := ite_y hp25 F
                          have hq25 := dec_t hp25
                          by_cases hp26 : r12.2 = 0
                          ·
                            replace F := ite_y hp26 F
                            have hq26 := dec_t hp26
                            by_cases hp27 : r13.2 = 0
                            ·
                              replace F := ite_y hp27 F
                              have hq27 := dec_t hp27
                              obtain ⟨r14, hr14, F⟩ := bnd_some F
                              obtain ⟨r15, hr15, F⟩ := bnd_some F
                              by_cases hp28 : r15 = true
                              ·
                                replace F := ite_y hp28 F
                                have hq28 : r15 = true := hp28
                                obtain ⟨r16, hr16, F⟩ := bnd_some F
                                obtain ⟨r17, hr17, F⟩ := bnd_some F
                                by_cases hp29 : r17 = true
                                ·
                                  replace F := ite_y hp29 F
                                  have hq29 : r17 = true := hp29
                                  obtain ⟨r18, hr18, F⟩ := bnd_some F
                                  refine CW.region ?_
                                  refine LW.pure rfl rfl (RV.move rfl) ?_
                                  refine LW.pure rfl rfl (RV.nei rfl rfl) ?_
                                  refine LW.pure rfl rfl (RV.move rfl) ?_
                                  refine LW.pureYB rfl rfl rfl rfl (not_f hq25) (RV.move rfl) ?_
                                  refine LW.pureYB rfl rfl rfl rfl (not_f hq25) (RV.nei rfl rfl) ?_
                                  refine LW.pure rfl rfl (RV.pickFB rfl (not_f hq25) rfl) ?_
                                  refine LW.pure rfl rfl (RV.move rfl) ?_
                                  refine LW.pureYB rfl rfl rfl rfl (not_f hq26) (RV.move rfl) ?_
                                  refine LW.pureYB rfl rfl rfl rfl (not_f hq26) (RV.nei rfl rfl) ?_
                                  refine LW.pure rfl rfl (RV.pickFB rfl (not_f hq26) rfl) ?_
                                  refine LW.pure rfl rfl (RV.move rfl) ?_
                                  refine LW.pureYB rfl rfl rfl rfl (not_f hq27) (RV.move rfl) ?_
                                  refine LW.pureYB rfl rfl rfl rfl (not_f hq27) (RV.fieldAddr Tf24_0 rfl) ?_
                                  refine LW.pureYB rfl rfl rfl rfl (not_f hq27) (RV.load1 Tk3 rfl ((H.blk 7 rfl).cells.off 0) rfl) ?_
                                  refine LW.pureYB rfl rfl rfl rfl (not_f hq27) (RV.move rfl) ?_
                                  refine LW.yesB rfl rfl rfl rfl (not_f hq27) (OW.call Tc54 rfl (top_others_ok (a0 := a0.nodes) (a1 := r10.1) (H.own 6 rfl).sl hr14) ?_)
                                  rintro _ w31 ⟨A87_0, c87_0, rfl, E21⟩
                                  refine ⟨_, rfl, ?_⟩
                                  replace H : Hp w w31 [.own A87_0 c87_0 3 1 (List.map encN r14), .own A62_0 c62_0 3 1 (List.map encN r13.1), .own A60_0 c60_0 3 1 (List.map encN r12.1), .blk b3 24 [.int .i64 r11.1.nodes, .int .i64 r11.1.from_, .int .i64 r11.1.to_, .slice A58_0_drains r11.1.drains.length c58_0_drains], .own A58_0_drains c58_0_drains 52 3 (List.map encDrain r11.1.drains), .own A41_0 c41_0 3 1 (List.map encN r8.1), .own A45_0 c45_0 3 1 (List.map encN r9.1), .own A47_0 c47_0 3 1 (List.map encN r10.1), .blk b1 24 [.int .i64 a0.nodes, .int .i64 a0.from_, .int .i64 a0.to_, .slice A_a0_drains a0.drains.length c_a0_drains]] := H.append E21
                                  replace R0 := H.ext
                                  refine LW.yesB rfl rfl rfl rfl (not_f hq27) (OW.call Tc34 rfl (ref01_SameInts_ok (a0 := r12.1) (a1 := r14) (H.own 2 rfl).sl (H.own 0 rfl).sl hr15) ?_)
                                  rintro _ w32 ⟨rfl, E22⟩
                                  refine ⟨_, rfl, ?_⟩
                                  replace H := H.grow E22
                                  replace R0 := H.ext
                                  refine LW.pureYB rfl rfl rfl rfl (not_f hq27) (RV.not rfl) ?_
                                  refine LW.pure rfl rfl (RV.pickFB rfl (not_f hq27) rfl) ?_
                                  refine LW.pure rfl rfl (RV.move rfl) ?_
                                  refine LW.pureYB rfl rfl rfl rfl (not_f hq28) (RV.move rfl) ?_
                                  refine LW.pureYB rfl rfl rfl rfl (not_f hq28) (RV.fieldAddr Tf24_0 rfl) ?_
                                  refine LW.pureYB rfl rfl rfl rfl (not_f hq28) (RV.load1 Tk3 rfl ((H.blk 8 rfl).cells.off 0) rfl) ?_
                                  refine LW.pureYB rfl rfl rfl rfl (not_f hq28) (RV.move rfl) ?_
                                  refine LW.yesB rfl rfl rfl rfl (not_f hq28) (OW.call Tc54 rfl (top_others_ok (a0 := a0.nodes) (a1 := r9.1) (H.own 6 rfl).sl hr16) ?_)
                                  rintro _ w33 ⟨A89_0, c89_0, rfl, E23⟩
                                  refine ⟨_, rfl, ?_⟩
                                  replace H : Hp w w33 [.own A89_0 c89_0 3 1 (List.map encN r16), .own A87_0 c87_0 3 1 (List.map encN r14), .own A62_0 c62_0 3 1 (List.map encN r13.1), .own A60_0 c60_0 3 1 (List.map encN r12.1), .blk b3 24 [.int .i64 r11.1.nodes, .int .i64 r11.1.from_, .int .i64 r11.1.to_, .slice A58_0_drains r11.1.drains.length c58_0_drains], .own A58_0_drains c58_0_drains 52 3 (List.map encDrain r11.1.drains), .own A41_0 c41_0 3 1 (List.map encN r8.1), .own A45_0 c45_0 3 1 (List.map encN r9.1), .own A47_0 c47_0 3 1 (List.map encN r10.1), .blk b1 24 [.int .i64 a0.nodes, .int .i64 a0.from_, .int .i64 a0.to_, .slice A_a0_drains a0.drains.length c_a0_drains]] := H.append E23
                                  replace R0 := H.ext
                                  refine LW.yesB rfl rfl rfl rfl (not_f hq28) (OW.call Tc34 rfl (ref01_SameInts_ok (a0 := r13.1) (a1 := r16) (H.own 2 rfl).sl (H.own 0 rfl).sl hr17) ?_)
                                  rintro _ w34 ⟨rfl, E24⟩
                                  refine ⟨_, rfl, ?_⟩
                                  replace H := H.grow E24
                                  replace R0 := H.ext
                                  refine LW.pureYB rfl rfl rfl rfl (not_f hq28) (RV.not rfl) ?_
                                  refine LW.pure rfl rfl (RV.pickFB rfl (not_f hq28) rfl) ?_
                                  refine LW.pure rfl rfl (RV.move rfl) ?_
                                  refine LW.pureYB rfl rfl rfl rfl (not_f hq29) (RV.loadA [.int .i64 r11.1.nodes, .int .i64 r11.1.from_, .int .i64 r11.1.to_, .slice A58_0_drains r11.1.drains.length c58_0_drains] Tk24 rfl (H.blk 4 rfl).cells rfl rfl) ?_
                                  refine LW.pureYB rfl rfl rfl rfl (not_f hq29) (RV.move rfl) ?_
                                  refine LW.pureYB rfl rfl rfl rfl (not_f hq29) (RV.move rfl) ?_
                                  refine LW.yesB rfl rfl rfl rfl (not_f hq29) (OW.call Tc51 rfl (drain_CheckMost_ok (a0 := r11.1) (a1 := r8.1) (a2 := r12.1) (H.own 5 rfl).sl (H.own 6 rfl).sl (H.own 3 rfl).sl hr18) ?_)
                                  rintro _ w35 ⟨rfl, E25⟩
                                  refine ⟨_, rfl, ?_⟩
                                  replace H := H.grow E25
                                  replace R0 := H.ext
                                  refine LW.pureYB rfl rfl rfl rfl (not_f hq29) (RV.nei rfl rfl) ?_
                                  refine LW.pure rfl rfl (RV.pickFB rfl (not_f hq29) rfl) ?_
                                  replace H := H.pick (L' := [.blk b1 24 [.int .i64 a0.nodes, .int .i64 a0.from_, .int .i64 a0.to_, .slice A_a0_drains a0.drains.length c_a0_drains]]) [9] (by decide) rfl
                                  replace R0 := H.ext
                                  refine LW.nil (jK187 _ _ ⟨_, ?_, ⟨(!(decide (r18 = 0))), F, rfl, H⟩⟩)
                                  exact ⟨rfl, rfl, rfl, rfl, rfl, trivial⟩
                                ·
                                  replace F := ite_n hp29 F
                                  have hq29 : r17 = false := raw_f hp29
                                  refine CW.region ?_
                                  refine LW.pure rfl rfl (RV.move rfl) ?_
                                  refine LW.pure rfl rfl (RV.nei rfl rfl) ?_
                                  refine LW.pure rfl rfl (RV.move rfl) ?_
                                  refine LW.pureYB rfl rfl rfl rfl (not_f hq25) (RV.move rfl) ?_
                                  refine LW.pureYB rfl rfl rfl rfl (not_f hq25) (RV.nei rfl rfl) ?_
                                  refine LW.pure rfl rfl (RV.pickFB rfl (not_f hq25) rfl) ?_
                                  refine LW.pure rfl rfl (RV.move rfl) ?_
                                  refine LW.pureYB rfl rfl rfl rfl (not_f hq26) (RV.move rfl) ?_
                                  refine LW.pureYB rfl rfl rfl rfl (not_f hq26) (RV.nei rfl rfl) ?_
                                  refine LW.pure rfl rfl (RV.pickFB rfl (not_f hq26) rfl) ?_
                                  refine LW.pure rfl rfl (RV.move rfl) ?_
                                  refine LW.pureYB rfl rfl rfl rfl (not_f hq27) (RV.move rfl) ?_
                                  refine LW.pureYB rfl rfl rfl rfl (not_f hq27) (RV.fieldAddr Tf24_0 rfl) ?_
                                  refine LW.pureYB rfl rfl rfl rfl (not_f hq27) (RV.load1 Tk3 rfl ((H.blk 7 rfl).cells.off 0) rfl) ?_
                                  refine LW.pureYB rfl rfl rfl rfl (not_f hq27) (RV.move rfl) ?_
                                  refine LW.yesB rfl rfl rfl rfl (not_f hq27) (OW.call Tc54 rfl (top_others_ok (a0 := a0.nodes) (a1 := r10.1) (H.own 6 rfl).sl hr14) ?_)
                                  rintro _ w36 ⟨A92_0, c92_0, rfl, E26⟩
                                  refine ⟨_, rfl, ?_⟩
                                  replace H : Hp w w36 [.own A92_0 c92_0 3 1 (List.map encN r14), .own A62_0 c62_0 3 1 (List.map encN r13.1), .own A60_0 c60_0 3 1 (List.map encN r12.1), .blk b3 24 [.int .i64 r11.1.nodes, .int .i64 r11.1.from_, .int .i64 r11.1.to_, .slice A58_0_drains r11.1.drains.length c58_0_drains], .own A58_0_drains c58_0_drains 52 3 (List.map encDrain r11.1.drains), .own A41_0 c41_0 3 1 (List.map encN r8.1), .own A45_0 c45_0 3 1 (List.map encN r9.1), .own A47_0 c47_0 3 1 (List.map encN r10.1), .blk b1 24 [.int .i64 a0.nodes, .int .i64 a0.from_, .int .i64 a0.to_, .slice A_a0_drains a0.drains.length c_a0_drains]] := H.append E26
                                  replace R0 := H.ext
                                  refine LW.yesB rfl rfl rfl rfl (not_f hq27) (OW.call Tc34 rfl (ref01_SameInts_ok (a0 := r12.1) (a1 := r14) (H.own 2 rfl).sl (H.own 0 rfl).sl hr15) ?_)
                                  rintro _ w37 ⟨rfl, E27⟩
                                  refine ⟨_, rfl, ?_⟩
                                  replace H := H.grow E27
                                  replace R0 := H.ext
                                  refine LW.pureYB rfl rfl rfl rfl (not_f hq27) (RV.not rfl) ?_
                                  refine LW.pure rfl rfl (RV.pickFB rfl (not_f hq27) rfl) ?_
                                  refine LW.pure rfl rfl (RV.move rfl) ?_
                                  refine LW.pureYB rfl rfl rfl rfl (not_f hq28) (RV.move rfl) ?_
                                  refine LW.pureYB rfl rfl rfl rfl (not_f hq28) (RV.fieldAddr Tf24_0 rfl) ?_
                                  refine LW.pureYB rfl rfl rfl rfl (not_f hq28) (RV.load1 Tk3 rfl ((H.blk 8 rfl).cells.off 0) rfl) ?_
                                  refine LW.pureYB rfl rfl rfl rfl (not_f hq28) (RV.move rfl) ?_
                                  refine LW.yesB rfl rfl rfl rfl (not_f hq28) (OW.call Tc54 rfl (top_others_ok (a0 := a0.nodes) (a1 := r9.1) (H.own 6 rfl).sl hr16) ?_)
                                  rintro _ w38 ⟨A94_0, c94_0, rfl, E28⟩
                                  refine ⟨_, rfl, ?_⟩
                                  replace H : Hp w w38 [.own A94_0 c94_0 3 1 (List.map encN r16), .own A92_0 c92_0 3 1 (List.map encN r14), .own A62_0 c62_0 3 1 (List.map encN r13.1), .own A60_0 c60_0 3 1 (List.map encN r12.1), .blk b3 24 [.int .i64 r11.1.nodes, .int .i64 r11.1.from_, .int .i64 r11.1.to_, .slice A58_0_drains r11.1.drains.length c58_0_drains], .own A58_0_drains c58_0_drains 52 3 (List.map encDrain r11.1.drains), .own A41_0 c41_0 3 1 (List.map encN r8.1), .own A45_0 c45_0 3 1 (List.map encN r9.1), .own A47_0 c47_0 3 1 (List.map encN r10.1), .blk b1 24 [.int .i64 a0.nodes, .int .i64 a0.from_, .int .i64 a0.to_, .slice A_a0_drains a0.drains.length c_a0_drains]] := H.append E28
                                  replace R0 := H.ext
                                  refine LW.yesB rfl rfl rfl rfl (not_f hq28) (OW.call Tc34 rfl (ref01_SameInts_ok (a0 := r13.1) (a1 := r16) (H.own 2 rfl).sl (H.own 0 rfl).sl hr17) ?_)
                                  rintro _ w39 ⟨rfl, E29⟩
                                  refine ⟨_, rfl, ?_⟩
                                  replace H := H.grow E29
                                  replace R0 := H.ext
                                  refine LW.pureYB rfl rfl rfl rfl (not_f hq28) (RV.not rfl) ?_
                                  refine LW.pure rfl rfl (RV.pickFB rfl (not_f hq28) rfl) ?_
                                  refine LW.pure rfl rfl (RV.move rfl) ?_
                                  refine LW.noB rfl rfl rfl rfl (ne_beq (v := true) (not_t hq29) rfl) ?_
                                  refine LW.noB rfl rfl rfl rfl (ne_beq (v := true) (not_t hq29) rfl) ?_
                                  refine LW.noB rfl rfl rfl rfl (ne_beq (v := true) (not_t hq29) rfl) ?_
                                  refine LW.noB rfl rfl rfl rfl (ne_beq (v := true) (not_t hq29) rfl) ?_
                                  refine LW.noB rfl rfl rfl rfl (ne_beq (v := true) (not_t hq29) rfl) ?_
                                  refine LW.pure rfl rfl (RV.pickTB rfl (not_t hq29) rfl) ?_
                                  replace H := H.pick (L' := [.blk b1 24 [.int .i64 a0.nodes, .int .i64 a0.from_, .int .i64 a0.to_, .slice A_a0_drains a0.drains.length c_a0_drains]]) [9] (by decide) rfl
                                  replace R0 := H.ext
                                  refine LW.nil (jK187 _ _ ⟨_, ?_, ⟨true, F, rfl, H⟩⟩)
                                  exact ⟨rfl, rfl, rfl, rfl, rfl, trivial⟩
                              ·
                                replace F := ite_n hp28 F
                                have hq28 : r15 = false := raw_f hp28
                                refine CW.region ?_
                                refine LW.pure rfl rfl (RV.move rfl) ?_
                                refine LW.pure rfl rfl (RV.nei rfl rfl) ?_
                                refine LW.pure rfl rfl (RV.move rfl) ?_
                                refine LW.pureYB rfl rfl rfl rfl (not_f hq25) (RV.move rfl) ?_
                                refine LW.pureYB rfl rfl rfl rfl (not_f hq25) (RV.nei rfl rfl) ?_
                                refine LW.pure rfl rfl (RV.pickFB rfl (not_f hq25) rfl) ?_
                                refine LW.pure rfl rfl (RV.move rfl) ?_
                                refine LW.pureYB rfl rfl rfl rfl (not_f hq26) (RV.move rfl) ?_
                                refine LW.pureYB rfl rfl rfl rfl (not_f hq26) (RV.nei rfl rfl) ?_
                                refine LW.pure rfl rfl (RV.pickFB rfl (not_f hq26) rfl) ?_
                                refine LW.pure rfl rfl (RV.move rfl) ?_
                                refine LW.pureYB rfl rfl rfl rfl (not_f hq27) (RV.move rfl) ?_
                                refine LW.pureYB rfl rfl rfl rfl (not_f hq27) (RV.fieldAddr Tf24_0 rfl) ?_
                                refine LW.pureYB rfl rfl rfl rfl (not_f hq27) (RV.load1 Tk3 rfl ((H.blk 7 rfl).cells.off 0) rfl) ?_
                                refine LW.pureYB rfl rfl rfl rfl (not_f hq27) (RV.move rfl) ?_
                                refine LW.yesB rfl rfl rfl rfl (not_f hq27) (OW.call Tc54 rfl (top_others_ok (a0 := a0.nodes) (a1 := r10.1) (H.own 6 rfl).sl hr14) ?_)
                                rintro _ w40 ⟨A96_0, c96_0, rfl, E30⟩
                                refine ⟨_, rfl, ?_⟩
                                replace H : Hp w w40 [.own A96_0 c96_0 3 1 (List.map encN r14), .own A62_0 c62_0 3 1 (List.map encN r13.1), .own A60_0 c60_0 3 1 (List.map encN r12.1), .blk b3 24 [.int .i64 r11.1.nodes, .int .i64 r11.1.from_, .int .i64 r11.1.to_, .slice A58_0_drains r11.1.drains.length c58_0_drains], .own A58_0_drains c58_0_drains 52 3 (List.map encDrain r11.1.drains), .own A41_0 c41_0 3 1 (List.map encN r8.1), .own A45_0 c45_0 3 1 (List.map encN r9.1), .own A47_0 c47_0 3 1 (List.map encN r10.1), .blk b1 24 [.int .i64 a0.nodes, .int .i64 a0.from_, .int .i64 a0.to_, .slice A_a0_drains a0.drains.length c_a0_drains]] := H.append E30
                                replace R0 := H.ext
                                refine LW.yesB rfl rfl rfl rfl (not_f hq27) (OW.call Tc34 rfl (ref01_SameInts_ok (a0 := r12.1) (a1 := r14) (H.own 2 rfl).sl (H.own 0 rfl).sl hr15) ?_)
                                rintro _ w41 ⟨rfl, E31⟩
                                refine ⟨_, rfl, ?_⟩
                                replace H := H.grow E31
                                replace R0 := H.ext
                                refine LW.pureYB rfl rfl rfl rfl (not_f hq27) (RV.not rfl) ?_
                                refine LW.pure rfl rfl (RV.pickFB rfl (not_f hq27) rfl) ?_
                                refine LW.pure rfl rfl (RV.move rfl) ?_
                                refine LW.noB rfl rfl rfl rfl (ne_beq (v := true) (not_t hq28) rfl) ?_
                                refine LW.noB rfl rfl rfl rfl (ne_beq (v := true) (not_t hq28) rfl) ?_
                                refine LW.noB rfl rfl rfl rfl (ne_beq (v := true) (not_t hq28) rfl) ?_
                                refine LW.noB rfl rfl rfl rfl (ne_beq (v := true) (not_t hq28) rfl) ?_
                                refine LW.noB rfl rfl rfl rfl (ne_beq (v := true) (not_t hq28) rfl) ?_
                                refine LW.noB rfl rfl rfl rfl (ne_beq (v := true) (not_t hq28) rfl) ?_
                                refine LW.noB rfl rfl rfl rfl (ne_beq (v := true) (not_t hq28) rfl) ?_
                                refine LW.pure rfl rfl (RV.pickTB rfl (not_t hq28) rfl) ?_
                                refine LW.pure rfl rfl (RV.move rfl) ?_
                                refine LW.noB rfl rfl rfl rfl (ne_beq (v := true) rfl rfl) ?_
                                refine LW.noB rfl rfl rfl rfl (ne_beq (v := true) rfl rfl) ?_
                                refine LW.noB rfl rfl rfl rfl (ne_beq (v := true) rfl rfl) ?_
                                refine LW.noB rfl rfl rfl rfl (ne_beq (v := true) rfl rfl) ?_
                                refine LW.noB rfl rfl rfl rfl (ne_beq (v := true) rfl rfl) ?_
                                refine LW.pure rfl rfl (RV.pickTB rfl rfl rfl) ?_
                                replace H := H.pick (L' := [.blk b1 24 [.int .i64 a0.nodes, .int .i64 a0.from_, .int .i64 a0.to_, .slice A_a0_drains a0.drains.length c_a0_drains]]) [8] (by decide) rfl
                                replace R0 := H.ext
                                refine LW.nil (jK187 _ _ ⟨_, ?_, ⟨true, F, rfl, H⟩⟩)
                                exact ⟨rfl, rfl, rfl, rfl, rfl, trivial⟩
                            ·
                              replace F := ite_n hp27 F
                              have hq27 := dec_f hp27
                              refine CW.region ?_
                              refine LW.pure rfl rfl (RV.move rfl) ?_
                              refine LW.pure rfl rfl (RV.nei rfl rfl) ?_
                              refine LW.pure rfl rfl (RV.move rfl) ?_
                              refine LW.pureYB rfl rfl rfl rfl (not_f hq25) (RV.move rfl) ?_
                              refine LW.pureYB rfl rfl rfl rfl (not_f hq25) (RV.nei rfl rfl) ?_
                              refine LW.pure rfl rfl (RV.pickFB rfl (not_f hq25) rfl) ?_
                              refine LW.pure rfl rfl (RV.move rfl) ?_
                              refine LW.pureYB rfl rfl rfl rfl (not_f hq26) (RV.move rfl) ?_
                              refine LW.pureYB rfl rfl rfl rfl (not_f hq26) (RV.nei rfl rfl) ?_
                              refine LW.pure rfl rfl (RV.pickFB rfl (not_f hq26) rfl) ?_
                              refine LW.pure rfl rfl (RV.move rfl) ?_
                              refine LW.noB rfl rfl rfl rfl (ne_beq (v := true) (not_t hq27) rfl) ?_
                              refine LW.noB rfl rfl rfl rfl (ne_beq (v := true) (not_t hq27) rfl) ?_
                              refine LW.noB rfl rfl rfl rfl (ne_beq (v := true) (not_t hq27) rfl) ?_
                              refine LW.noB rfl rfl rfl rfl (ne_beq (v := true) (not_t hq27) rfl) ?_
                              refine LW.noB rfl rfl rfl rfl (ne_beq (v := true) (not_t hq27) rfl) ?_
                              refine LW.noB rfl rfl rfl rfl (ne_beq (v := true) (not_t hq27) rfl) ?_
                              refine LW.noB rfl rfl rfl rfl (ne_beq (v := true) (not_t hq27) rfl) ?_
                              refine LW.pure rfl rfl (RV.pickTB rfl (not_t hq27) rfl) ?_
                              refine LW.pure rfl rfl (RV.move rfl) ?_
                              refine LW.noB rfl rfl rfl rfl (ne_beq (v := true) rfl rfl) ?_
                              refine LW.noB rfl rfl rfl rfl (ne_beq (v := true) rfl rfl) ?_
                              refine LW.noB rfl rfl rfl rfl (ne_beq (v := true) rfl rfl) ?_
                              refine LW.noB rfl rfl rfl rfl (ne_beq (v := true) rfl rfl) ?_
                              refine LW.noB rfl rfl rfl rfl (ne_beq (v := true) rfl rfl) ?_
                              refine LW.noB rfl rfl rfl rfl (ne_beq (v := true) rfl rfl) ?_
                              refine LW.noB rfl rfl rfl rfl (ne_beq (v := true) rfl rfl) ?_
                              refine LW.pure rfl rfl (RV.pickTB rfl rfl rfl) ?_
                              refine LW.pure rfl rfl (RV.move rfl) ?_
                              refine LW.noB rfl rfl rfl rfl (ne_beq (v := true) rfl rfl) ?_
                              refine LW.noB rfl rfl rfl rfl (ne_beq (v := true) rfl rfl) ?_
                              refine LW.noB rfl rfl rfl rfl (ne_beq (v := true) rfl rfl) ?_
                              refine LW.noB rfl rfl rfl rfl (ne_beq (v := true) rfl rfl) ?_
                              refine LW.noB rfl rfl rfl rfl (ne_beq (v := true) rfl rfl) ?_
                              refine LW.pure rfl rfl (RV.pickTB rfl rfl rfl) ?_
                              replace H := H.pick (L' := [.blk b1 24 [.int .i64 a0.nodes, .int .i64 a0.from_, .int .i64 a0.to_, .slice A_a0_drains a0.drains.length c_a0_drains]]) [7] (by decide) rfl
                              replace R0 := H.ext
                              refine LW.nil (jK187 _ _ ⟨_, ?_, ⟨true, F, rfl, H⟩⟩)
                              exact ⟨rfl, rfl, rfl, rfl, rfl, trivial⟩
                          ·
                            replace F := ite_n hp26 F
                            have hq26 := dec_f hp26
                            refine CW.region ?_
                            refine LW.pure rfl rfl (RV.move rfl) ?_
                            refine LW.pure rfl rfl (RV.nei rfl rfl) ?_
                            refine LW.pure rfl rfl (RV.move rfl) ?_
                            refine LW.pureYB rfl rfl rfl rfl (not_f hq25) (RV.move rfl) ?_
                            refine LW.pureYB rfl rfl rfl rfl (not_f hq25) (RV.nei rfl rfl) ?_
                            refine LW.pure rfl rfl (RV.pickFB rfl (not_f hq25) rfl) ?_
                            refine LW.pure rfl rfl (RV.move rfl) ?_
                            refine LW.noB rfl rfl rfl rfl (ne_beq (v := true) (not_t hq26) rfl) ?_
                            refine LW.noB rfl rfl rfl rfl (ne_beq (v := true) (not_t hq26) rfl) ?_
                            refine LW.pure rfl rfl (RV.pickTB rfl (not_t hq26) rfl) ?_
                            refine LW.pure rfl rfl (RV.move rfl) ?_
                            refine LW.noB rfl rfl rfl rfl (ne_beq (v := true) rfl rfl) ?_
                            refine LW.noB rfl rfl rfl rfl (ne_beq (v := true) rfl rfl) ?_
                            refine LW.noB rfl rfl rfl rfl (ne_beq (v := true) rfl rfl) ?_
                            refine LW.noB rfl rfl rfl rfl (ne_beq (v := true) rfl rfl) ?_
                            refine LW.noB rfl rfl rfl rfl (ne_beq (v := true) rfl rfl) ?_
                            refine LW.noB rfl rfl rfl rfl (ne_beq (v := true) rfl rfl) ?_
                            refine LW.noB rfl rfl rfl rfl (ne_beq (v := true) rfl rfl) ?_
                            refine LW.pure rfl rfl (RV.pickTB rfl rfl rfl) ?_
                            refine LW.pure rfl rfl (RV.move rfl) ?_
                            refine LW.noB rfl rfl rfl rfl (ne_beq (v := true) rfl rfl) ?_
                            refine LW.noB rfl rfl rfl rfl (ne_beq (v := true) rfl rfl) ?_
                            refine LW.noB rfl rfl rfl rfl (ne_beq (v := true) rfl rfl) ?_
                            refine LW.noB rfl rfl rfl rfl (ne_beq (v := true) rfl rfl) ?_
                            refine LW.noB rfl rfl rfl rfl (ne_beq (v := true) rfl rfl) ?_
                            refine LW.noB rfl rfl rfl rfl (ne_beq (v := true) rfl rfl) ?_
                            refine LW.noB rfl rfl rfl rfl (ne_beq (v := true) rfl rfl) ?_
                            refine LW.pure rfl rfl (RV.pickTB rfl rfl rfl) ?_
                            refine LW.pure rfl rfl (RV.move rfl) ?_
                            refine LW.noB rfl rfl rfl rfl (ne_beq (v := true) rfl rfl) ?_
                            refine LW.noB rfl rfl rfl rfl (ne_beq (v := true) rfl rfl) ?_
                            refine LW.noB rfl rfl rfl rfl (ne_beq (v := true) rfl rfl) ?_
                            refine LW.noB rfl rfl rfl rfl (ne_beq (v := true) rfl rfl) ?_
                            refine LW.noB rfl rfl rfl rfl (ne_beq (v := true) rfl rfl) ?_
                            refine LW.pure rfl rfl (RV.pickTB rfl rfl rfl) ?_
                            replace H := H.pick (L' := [.blk b1 24 [.int .i64 a0.nodes, .int .i64 a0.from_, .int .i64 a0.to_, .slice A_a0_drains a0.drains.length c_a0_drains]]) [7] (by decide) rfl
                            replace R0 := H.ext
                            refine LW.nil (jK187 _ _ ⟨_, ?_, ⟨true, F, rfl, H⟩⟩)
                            exact ⟨rfl, rfl, rfl, rfl, rfl, trivial⟩
                        ·
                          replace F := ite_n hp25 F
                          have hq25 := dec_f hp25
                          refine CW.region ?_
                          refine LW.pure rfl rfl (RV.move rfl) ?_
                          refine LW.pure rfl rfl (RV.nei rfl rfl) ?_
                          refine LW.pure rfl rfl (RV.move rfl) ?_
                          refine LW.noB rfl rfl rfl rfl (ne_beq (v := true) (not_t hq25) rfl) ?_
                          refine LW.noB rfl rfl rfl rfl (ne_beq (v := true) (not_t hq25) rfl) ?_
                          refine LW.pure rfl rfl (RV.pickTB rfl (not_t hq25) rfl) ?_
                          refine LW.pure rfl rfl (RV.move rfl) ?_
                          refine LW.noB rfl rfl rfl rfl (ne_beq (v := true) rfl rfl) ?_
                          refine LW.noB rfl rfl rfl rfl (ne_beq (v := true) rfl rfl) ?_
                          refine LW.pure rfl rfl (RV.pickTB rfl rfl rfl) ?_
                          refine LW.pure rfl rfl (RV.move rfl) ?_
                          refine LW.noB rfl rfl rfl rfl (ne_beq (v := true) rfl rfl) ?_
                          refine LW.noB rfl rfl rfl rfl (ne_beq (v := true) rfl rfl) ?_
                          refine LW.noB rfl rfl rfl rfl (ne_beq (v := true) rfl rfl) ?_
                          refine LW.noB rfl rfl rfl rfl (ne_beq (v := true) rfl rfl) ?_
                          refine LW.noB rfl rfl rfl rfl (ne_beq (v := true) rfl rfl) ?_
                          refine LW.noB rfl rfl rfl rfl (ne_beq (v := true) rfl rfl) ?_
                          refine LW.noB rfl rfl rfl rfl (ne_beq (v := true) rfl rfl) ?_
                          refine LW.pure rfl rfl (RV.pickTB rfl rfl rfl) ?_
                          refine LW.pure rfl rfl (RV.move rfl) ?_
                          refine LW.noB rfl rfl rfl rfl (ne_beq (v := true) rfl rfl) ?_
                          refine LW.noB rfl rfl rfl rfl (ne_beq (v := true) rfl rfl) ?_
                          refine LW.noB rfl rfl rfl rfl (ne_beq (v := true) rfl rfl) ?_
                          refine LW.noB rfl rfl rfl rfl (ne_beq (v := true) rfl rfl) ?_
                          refine LW.noB rfl rfl rfl rfl (ne_beq (v := true) rfl rfl) ?_
                          refine LW.noB rfl rfl rfl rfl (ne_beq (v := true) rfl rfl) ?_
                          refine LW.noB rfl rfl rfl rfl (ne_beq (v := true) rfl rfl) ?_
                          refine LW.pure rfl rfl (RV.pickTB rfl rfl rfl) ?_
                          refine LW.pure rfl rfl (RV.move rfl) ?_
                          refine LW.noB rfl rfl rfl rfl (ne_beq (v := true) rfl rfl) ?_
                          refine LW.noB rfl rfl rfl rfl (ne_beq (v := true) rfl rfl) ?_
                          refine LW.noB rfl rfl rfl rfl (ne_beq (v := true) rfl rfl) ?_
                          refine LW.noB rfl rfl rfl rfl (ne_beq (v := true) rfl rfl) ?_
                          refine LW.noB rfl rfl rfl rfl (ne_beq (v := true) rfl rfl) ?_
                          refine LW.pure rfl rfl (RV.pickTB rfl rfl rfl) ?_
                          replace H := H.pick (L' := [.blk b1 24 [.int .i64 a0.nodes, .int .i64 a0.from_, .int .i64 a0.to_, .slice A_a0_drains a0.drains.length c_a0_drains]]) [7] (by decide) rfl
                          replace R0 := H.ext
                          refine LW.nil (jK187 _ _ ⟨_, ?_, ⟨true, F, rfl, H⟩⟩)
                          exact ⟨rfl, rfl, rfl, rfl, rfl, trivial⟩
                  ·
                    intro K60 hK60 jK188
                    by_cases hp30 : r19.2 = 0
                    ·
                      replace F := ite_y hp30 F
                      have hq30 := dec_t hp30
                      by_cases hp31 : r20.2 = 0
                      ·
                        replace F := ite_y hp31 F
                        have hq31 := dec_t hp31
                        obtain ⟨r21, hr21, F⟩ := bnd_some F
                        refine CW.region ?_
                        refine LW.pure rfl rfl (RV.move rfl) ?_
                        refine LW.pure rfl rfl (RV.nei rfl rfl) ?_
                        refine LW.pure rfl rfl (RV.move rfl) ?_
                        refine LW.pureYB rfl rfl rfl rfl (not_f hq30) (RV.move rfl) ?_
                        refine LW.pureYB rfl rfl rfl rfl (not_f hq30) (RV.nei rfl rfl) ?_
                        refine LW.pure rfl rfl (RV.pickFB rfl (not_f hq30) rfl) ?_
                        refine LW.pure rfl rfl (RV.move rfl) ?_
                        refine LW.pureYB rfl rfl rfl rfl (not_f hq31) (RV.move rfl) ?_
                        refine LW.pureYB rfl rfl rfl rfl (not_f hq31) (RV.move rfl) ?_
                        refine LW.yesB rfl rfl rfl rfl (not_f hq31) (OW.call Tc34 rfl (ref01_SameInts_ok (a0 := r20.1) (a1 := r8.1) (H.own 0 rfl).sl (H.own 2 rfl).sl hr21) ?_)
                        rintro _ w42 ⟨rfl, E32⟩
                        refine ⟨_, rfl, ?_⟩
                        replace H := H.grow E32
                        replace R0 := H.ext
                        refine LW.pureYB rfl rfl rfl rfl (not_f hq31) (RV.not rfl) ?_
                        refine LW.pure rfl rfl (RV.pickFB rfl (not_f hq31) rfl) ?_
                        replace H := H.pick (L' := [.own A41_0 c41_0 3 1 (List.map encN r8.1), .own A45_0 c45_0 3 1 (List.map encN r9.1), .own A47_0 c47_0 3 1 (List.map encN r10.1), .blk b1 24 [.int .i64 a0.nodes, .int .i64 a0.from_, .int .i64 a0.to_, .slice A_a0_drains a0.drains.length c_a0_drains]]) [2, 3, 4, 5] (by decide) rfl
                        replace R0 := H.ext
                        refine LW.nil (jK188 _ _ ⟨_, ?_, ⟨(!r21), F, rfl, H⟩⟩)
                        exact ⟨rfl, rfl, rfl, (look_slice rfl (by first | rfl | (simp; done) | omega | (simp; omega))), rfl, (look_slice rfl (by first | rfl | (simp; done) | omega | (simp; omega))), (look_slice rfl (by first | rfl | (simp; done) | omega | (simp; omega))), rfl, trivial⟩
                      ·
                        replace F := ite_n hp31 F
                        have hq31 := dec_f hp31
                        refine CW.region ?_
                        refine LW.pure rfl rfl (RV.move rfl) ?_
                        refine LW.pure rfl rfl (RV.nei rfl rfl) ?_
                        refine LW.pure rfl rfl (RV.move rfl) ?_
                        refine LW.pureYB rfl rfl rfl rfl (not_f hq30) (RV.move rfl) ?_
                        refine LW.pureYB rfl rfl rfl rfl (not_f hq30) (RV.nei rfl rfl) ?_
                        refine LW.pure rfl rfl (RV.pickFB rfl (not_f hq30) rfl) ?_
                        refine LW.pure rfl rfl (RV.move rfl) ?_
                        refine LW.noB rfl rfl rfl rfl (ne_beq (v := true) (not_t hq31) rfl) ?_
                        refine LW.noB rfl rfl rfl rfl (ne_beq (v := true) (not_t hq31) rfl) ?_
                        refine LW.noB rfl rfl rfl rfl (ne_beq (v := true) (not_t hq31) rfl) ?_
                        refine LW.noB rfl rfl rfl rfl (ne_beq (v := true) (not_t hq31) rfl) ?_
                        refine LW.pure rfl rfl (RV.pickTB rfl (not_t hq31) rfl) ?_
                        replace H := H.pick (L' := [.own A41_0 c41_0 3 1 (List.map encN r8.1), .own A45_0 c45_0 3 1 (List.map encN r9.1), .own A47_0 c47_0 3 1 (List.map encN r10.1), .blk b1 24 [.int .i64 a0.nodes, .int .i64 a0.from_, .int .i64 a0.to_, .slice A_a0_drains a0.drains.length c_a0_drains]]) [2, 3, 4, 5] (by decide) rfl
                        replace R0 := H.ext
                        refine LW.nil (jK188 _ _ ⟨_, ?_, ⟨true, F, rfl, H⟩⟩)
                        exact ⟨rfl, rfl, rfl, (look_slice rfl (by first | rfl | (simp; done) | omega | (simp; omega))), rfl, (look_slice rfl (by first | rfl | (simp; done) | omega | (simp; omega))), (look_slice rfl (by first | rfl | (simp; done) | omega | (simp; omega))), rfl, trivial⟩
                    ·
                      replace F := ite_n hp30 F
                      have hq30 := dec_f hp30
                      refine CW.region ?_
                      refine LW.pure rfl rfl (RV.move rfl) ?_
                      refine LW.pure rfl rfl (RV.nei rfl rfl) ?_
                      refine LW.pure rfl rfl (RV.move rfl) ?_
                      refine LW.noB rfl rfl rfl rfl (ne_beq (v := true) (not_t hq30) rfl) ?_
                      refine LW.noB rfl rfl rfl rfl (ne_beq (v := true) (not_t hq30) rfl) ?_
                      refine LW.pure rfl rfl (RV.pickTB rfl (not_t hq30) rfl) ?_
                      refine LW.pure rfl rfl (RV.move rfl) ?_
                      refine LW.noB rfl rfl rfl rfl (ne_beq (v := true) rfl rfl) ?_
                      refine LW.noB rfl rfl rfl rfl (ne_beq (v := true) rfl rfl) ?_
                      refine LW.noB rfl rfl rfl rfl (ne_beq (v := true) rfl rfl) ?_
                      refine LW.noB rfl rfl rfl rfl (ne_beq (v := true) rfl rfl) ?_
                      refine LW.pure rfl rfl (RV.pickTB rfl rfl rfl) ?_
                      replace H := H.pick (L' := [.own A41_0 c41_0 3 1 (List.map encN r8.1), .own A45_0 c45_0 3 1 (List.map encN r9.1), .own A47_0 c47_0 3 1 (List.map encN r10.1), .blk b1 24 [.int .i64 a0.nodes, .int .i64 a0.from_, .int .i64 a0.to_, .slice A_a0_drains a0.drains.length c_a0_drains]]) [2, 3, 4, 5] (by decide) rfl
                      replace R0 := H.ext
                      refine LW.nil (jK188 _ _ ⟨_, ?_, ⟨true, F, rfl, H⟩⟩)
                      exact ⟨rfl, rfl, rfl, (look_slice rfl (by first | rfl | (simp; done) | omega | (simp; omega))), rfl, (look_slice rfl (by first | rfl | (simp; done) | omega | (simp; omega))), (look_slice rfl (by first | rfl | (simp; done) | omega | (simp; omega))), rfl, trivial⟩
              ·
                intro K61 hK61 jK189
                by_cases hp32 : r22.2 = 0
                ·
                  replace F := ite_y hp32 F
                  have hq32 := dec_t hp32
                  refine CW.region ?_
                  refine LW.pure rfl rfl (RV.move rfl) ?_
                  refine LW.pure rfl rfl (RV.nei rfl rfl) ?_
                  refine LW.pure rfl rfl (RV.move rfl) ?_
                  refine LW.pureYB rfl rfl rfl rfl (not_f hq32) (RV.move rfl) ?_
                  refine LW.pureYB rfl rfl rfl rfl (not_f hq32) (RV.move rfl) ?_
                  refine LW.pureYB rfl rfl rfl rfl (not_f hq32) (RV.nei rfl rfl) ?_
                  refine LW.pure rfl rfl (RV.pickFB rfl (not_f hq32) rfl) ?_
                  refine LW.nil (jK189 _ _ ⟨_, ?_, ⟨(!(decide (r22.1 = r1.1))), F, rfl, H⟩⟩)
                  exact ⟨rfl, rfl, rfl, (look_slice rfl (by first | rfl | (simp; done) | omega | (simp; omega))), rfl, (look_slice rfl (by first | rfl | (simp; done) | omega | (simp; omega))), (look_slice rfl (by first | rfl | (simp; done) | omega | (simp; omega))), rfl, trivial⟩
                ·
                  replace F := ite_n hp32 F
                  have hq32 := dec_f hp32
                  refine CW.region ?_
                  refine LW.pure rfl rfl (RV.move rfl) ?_
                  refine LW.pure rfl rfl (RV.nei rfl rfl) ?_
                  refine LW.pure rfl rfl (RV.move rfl) ?_
                  refine LW.noB rfl rfl rfl rfl (ne_beq (v := true) (not_t hq32) rfl) ?_
                  refine LW.noB rfl rfl rfl rfl (ne_beq (v := true) (not_t hq32) rfl) ?_
                  refine LW.noB rfl rfl rfl rfl (ne_beq (v := true) (not_t hq32) rfl) ?_
                  refine LW.pure rfl rfl (RV.pickTB rfl (not_t hq32) rfl) ?_
                  refine LW.nil (jK189 _ _ ⟨_, ?_, ⟨true, F, rfl, H⟩⟩)
                  exact ⟨rfl, rfl, rfl, (look_slice rfl (by first | rfl | (simp; done) | omega | (simp; omega))), rfl, (look_slice rfl (by first | rfl | (simp; done) | omega | (simp; omega))), (look_slice rfl (by first | rfl | (simp; done) | omega | (simp; omega))), rfl, trivial⟩
          ·
            intro K62 hK62 jK190
            by_cases hp33 : r1.2 = 0
            ·
              replace F := ite_y hp33 F
              have hq33 := dec_t hp33
              by_cases hp34 : r9.2 = 0
              ·
                replace F := ite_y hp34 F
                have hq34 := dec_t hp34
                by_cases hp35 : r10.2 = 0
                ·
                  replace F := ite_y hp35 F
                  have hq35 := dec_t hp35
                  obtain ⟨r24, hr24, F⟩ := bnd_some F
                  by_cases hp36 : r24 = 0
                  ·
                    replace F := ite_y hp36 F
                    have hq36 := dec_t hp36
                    obtain ⟨r25, hr25, F⟩ := bnd_some F
                    refine CW.region ?_
                    refine LW.pure rfl rfl (RV.move rfl) ?_
                    refine LW.pure rfl rfl (RV.nei rfl rfl) ?_
                    refine LW.pure rfl rfl (RV.move rfl) ?_
                    refine LW.pureYB rfl rfl rfl rfl (not_f hq33) (RV.move rfl) ?_
                    refine LW.pureYB rfl rfl rfl rfl (not_f hq33) (RV.nei rfl rfl) ?_
                    refine LW.pure rfl rfl (RV.pickFB rfl (not_f hq33) rfl) ?_
                    refine LW.pure rfl rfl (RV.move rfl) ?_
                    refine LW.pureYB rfl rfl rfl rfl (not_f hq34) (RV.move rfl) ?_
                    refine LW.pureYB rfl rfl rfl rfl (not_f hq34) (RV.nei rfl rfl) ?_
                    refine LW.pure rfl rfl (RV.pickFB rfl (not_f hq34) rfl) ?_
                    refine LW.pure rfl rfl (RV.move rfl) ?_
                    refine LW.pureYB rfl rfl rfl rfl (not_f hq35) (RV.loadA [.int .i64 a0.nodes, .int .i64 a0.from_, .int .i64 a0.to_, .slice A_a0_drains a0.drains.length c_a0_drains] Tk24 rfl (H.blk 3 rfl).cells rfl rfl) ?_
                    refine LW.pureYB rfl rfl rfl rfl (not_f hq35) (RV.move rfl) ?_
                    refine LW.pureYB rfl rfl rfl rfl (not_f hq35) (RV.move rfl) ?_
                    refine LW.yesB rfl rfl rfl rfl (not_f hq35) (OW.call Tc51 rfl (drain_CheckMost_ok (a0 := a0) (a1 := r8.1) (a2 := r9.1) (h_a0_drains.ext R0) (H.own 2 rfl).sl (H.own 1 rfl).sl hr24) ?_)
                    rintro _ w43 ⟨rfl, E33⟩
                    refine ⟨_, rfl, ?_⟩
                    replace H := H.grow E33
                    replace R0 := H.ext
                    refine LW.pureYB rfl rfl rfl rfl (not_f hq35) (RV.nei rfl rfl) ?_
                    refine LW.pure rfl rfl (RV.pickFB rfl (not_f hq35) rfl) ?_
                    refine LW.pure rfl rfl (RV.move rfl) ?_
                    refine LW.pureYB rfl rfl rfl rfl (not_f hq36) (RV.loadA [.int .i64 a0.nodes, .int .i64 a0.from_, .int .i64 a0.to_, .slice A_a0_drains a0.drains.length c_a0_drains] Tk24 rfl (H.blk 3 rfl).cells rfl rfl) ?_
                    refine LW.pureYB rfl rfl rfl rfl (not_f hq36) (RV.move rfl) ?_
                    refine LW.pureYB rfl rfl rfl rfl (not_f hq36) (RV.move rfl) ?_
                    refine LW.yesB rfl rfl rfl rfl (not_f hq36) (OW.call Tc51 rfl (drain_CheckMost_ok (a0 := a0) (a1 := r8.1) (a2 := r10.1) (h_a0_drains.ext R0) (H.own 2 rfl).sl (H.own 0 rfl).sl hr25) ?_)
                    rintro _ w44 ⟨rfl, E34⟩
                    refine ⟨_, rfl, ?_⟩
                    replace H := H.grow E34
                    replace R0 := H.ext
                    refine LW.pureYB rfl rfl rfl rfl (not_f hq36) (RV.nei rfl rfl) ?_
                    refine LW.pure rfl rfl (RV.pickFB rfl (not_f hq36) rfl) ?_
                    replace H := H.pick (L' := [.own A41_0 c41_0 3 1 (List.map encN r8.1), .own A45_0 c45_0 3 1 (List.map encN r9.1), .own A47_0 c47_0 3 1 (List.map encN r10.1), .blk b1 24 [.int .i64 a0.nodes, .int .i64 a0.from_, .int .i64 a0.to_, .slice A_a0_drains a0.drains.length c_a0_drains]]) [2, 1, 0, 3] (by decide) rfl
                    replace R0 := H.ext
                    refine LW.nil (jK190 _ _ ⟨_, ?_, ⟨(!(decide (r25 = 0))), F, rfl, H⟩⟩)
                    exact ⟨rfl, rfl, rfl, (look_slice rfl (by first | rfl | (simp; done) | omega | (simp; omega))), rfl, (look_slice rfl (by first | rfl | (simp; done) | omega | (simp; omega))), (look_slice rfl (by first | rfl | (simp; done) | omega | (simp; omega))), rfl, trivial⟩
                  ·
                    replace F := ite_n hp36 F
                    have hq36 := dec_f hp36
                    refine CW.region ?_
                    refine LW.pure rfl rfl (RV.move rfl) ?_
                    refine LW.pure rfl rfl (RV.nei rfl rfl) ?_
                    refine LW.pure rfl rfl (RV.move rfl) ?_
                    refine LW.pureYB rfl rfl rfl rfl (not_f hq33) (RV.move rfl) ?_
                    refine LW.pureYB rfl rfl rfl rfl (not_f hq33) (RV.nei rfl rfl) ?_
                    refine LW.pure rfl rfl (RV.pickFB rfl (not_f hq33) rfl) ?_
                    refine LW.pure rfl rfl (RV.move rfl) ?_
                    refine LW.pureYB rfl rfl rfl rfl (not_f hq34) (RV.move rfl) ?_
                    refine LW.pureYB rfl rfl rfl rfl (not_f hq34) (RV.nei rfl rfl) ?_
                    refine LW.pure rfl rfl (RV.pickFB rfl (not_f hq34) rfl) ?_
                    refine LW.pure rfl rfl (RV.move rfl) ?_
                    refine LW.pureYB rfl rfl rfl rfl (not_f hq35) (RV.loadA [.int .i64 a0.nodes, .int .i64 a0.from_, .int .i64 a0.to_, .slice A_a0_drains a0.drains.length c_a0_drains] Tk24 rfl (H.blk 3 rfl).cells rfl rfl) ?_
                    refine LW.pureYB rfl rfl rfl rfl (not_f hq35) (RV.move rfl) ?_
                    refine LW.pureYB rfl rfl rfl rfl (not_f hq35) (RV.move rfl) ?_
                    refine LW.yesB rfl rfl rfl rfl (not_f hq35) (OW.call Tc51 rfl (drain_CheckMost_ok (a0 := a0) (a1 := r8.1) (a2 := r9.1) (h_a0_drains.ext R0) (H.own 2 rfl).sl (H.own 1 rfl).sl hr24) ?_)
                    rintro _ w45 ⟨rfl, E35⟩
                    refine ⟨_, rfl, ?_⟩
                    replace H := H.grow E35
                    replace R0 := H.ext
                    refine LW.pureYB rfl rfl rfl rfl (not_f hq35) (RV.nei rfl rfl) ?_
                    refine LW.pure rfl rfl (RV.pickFB rfl (not_f hq35) rfl) ?_
                    refine LW.pure rfl rfl (RV.move rfl) ?_
                    refine LW.noB rfl rfl rfl rfl (ne_beq (v := true) (not_t hq36) rfl) ?_
                    refine LW.noB rfl rfl rfl rfl (ne_beq (v := true) (not_t hq36) rfl) ?_
                    refine LW.noB rfl rfl rfl rfl (ne_beq (v := true) (not_t hq36) rfl) ?_
                    refine LW.noB rfl rfl rfl rfl (ne_beq (v := true) (not_t hq36) rfl) ?_
                    refine LW.noB rfl rfl rfl rfl (ne_beq (v := true) (not_t hq36) rfl) ?_
                    refine LW.pure rfl rfl (RV.pickTB rfl (not_t hq36) rfl) ?_
                    replace H := H.pick (L' := [.own A41_0 c41_0 3 1 (List.map encN r8.1), .own A45_0 c45_0 3 1 (List.map encN r9.1), .own A47_0 c47_0 3 1 (List.map encN r10.1), .blk b1 24 [.int .i64 a0.nodes, .int .i64 a0.from_, .int .i64 a0.to_, .slice A_a0_drains a0.drains.length c_a0_drains]]) [2, 1, 0, 3] (by decide) rfl
                    replace R0 := H.ext
                    refine LW.nil (jK190 _ _ ⟨_, ?_, ⟨true, F, rfl, H⟩⟩)
                    exact ⟨rfl, rfl, rfl, (look_slice rfl (by first | rfl | (simp; done) | omega | (simp; omega))), rfl, (look_slice rfl (by first | rfl | (simp; done) | omega | (simp; omega))), (look_slice rfl (by first | rfl | (simp; done) | omega | (simp; omega))), rfl, trivial⟩
                ·
                  replace F := ite_n hp35 F
                  have hq35 := dec_f hp35
                  refine CW.region ?_
                  refine LW.pure rfl rfl (RV.move rfl) ?_
                  refine LW.pure rfl rfl (RV.nei rfl rfl) ?_
                  refine LW.pure rfl rfl (RV.move rfl) ?_
                  refine LW.pureYB rfl rfl rfl rfl (not_f hq33) (RV.move rfl) ?_
                  refine LW.pureYB rfl rfl rfl rfl (not_f hq33) (RV.nei rfl rfl) ?_
                  refine LW.pure rfl rfl (RV.pickFB rfl (not_f hq33) rfl) ?_
                  refine LW.pure rfl rfl (RV.move rfl) ?_
                  refine LW.pureYB rfl rfl rfl rfl (not_f hq34) (RV.move rfl) ?_
                  refine LW.pureYB rfl rfl rfl rfl (not_f hq34) (RV.nei rfl rfl) ?_
                  refine LW.pure rfl rfl (RV.pickFB rfl (not_f hq34) rfl) ?_
                  refine LW.pure rfl rfl (RV.move rfl) ?_
                  refine LW.noB rfl rfl rfl rfl (ne_beq (v := true) (not_t hq35) rfl) ?_
                  refine LW.noB rfl rfl rfl rfl (ne_beq (v := true) (not_t hq35) rfl) ?_
                  refine LW.noB rfl rfl rfl rfl (ne_beq (v := true) (not_t hq35) rfl) ?_
                  refine LW.noB rfl rfl rfl rfl (ne_beq (v := true) (not_t hq35) rfl) ?_
                  refine LW.noB rfl rfl rfl rfl (ne_beq (v := true) (not_t hq35) rfl) ?_
                  refine LW.pure rfl rfl (RV.pickTB rfl (not_t hq35) rfl) ?_
                  refine LW.pure rfl rfl (RV.move rfl) ?_
                  refine LW.noB rfl rfl rfl rfl (ne_beq (v := true) rfl rfl) ?_
                  refine LW.noB rfl rfl rfl rfl (ne_beq (v := true) rfl rfl) ?_
                  refine LW.noB rfl rfl rfl rfl (ne_beq (v := true) rfl rfl) ?_
                  refine LW.noB rfl rfl rfl rfl (ne_beq (v := true) rfl rfl) ?_
                  refine LW.noB rfl rfl rfl rfl (ne_beq (v := true) rfl rfl) ?_
                  refine LW.pure rfl rfl (RV.pickTB rfl rfl rfl) ?_
                  replace H := H.pick (L' := [.own A41_0 c41_0 3 1 (List.map encN r8.1), .own A45_0 c45_0 3 1 (List.map encN r9.1), .own A47_0 c47_0 3 1 (List.map encN r10.1), .blk b1 24 [.int .i64 a0.nodes, .int .i64 a0.from_, .int .i64 a0.to_, .slice A_a0_drains a0.drains.length c_a0_drains]]) [2, 1, 0, 3] (by decide) rfl
                  replace R0 := H.ext
                  refine LW.nil (jK190 _ _ ⟨_, ?_, ⟨true, F, rfl, H⟩⟩)
                  exact ⟨rfl, rfl, rfl, (look_slice rfl (by first | rfl | (simp; done) | omega | (simp; omega))), rfl, (look_slice rfl (by first | rfl | (simp; done) | omega | (simp; omega))), (look_slice rfl (by first | rfl | (simp; done) | omega | (simp; omega))), rfl, trivial⟩
              ·
                replace F := ite_n hp34 F
                have hq34 := dec_f hp34
                refine CW.region ?_
                refine LW.pure rfl rfl (RV.move rfl) ?_
                refine LW.pure rfl rfl (RV.nei rfl rfl) ?_
                refine LW.pure rfl rfl (RV.move rfl) ?_
                refine LW.pureYB rfl rfl rfl rfl (not_f hq33) (RV.move rfl) ?_
                refine LW.pureYB rfl rfl rfl rfl (not_f hq33) (RV.nei rfl rfl) ?_
                refine LW.pure rfl rfl (RV.pickFB rfl (not_f hq33) rfl) ?_
                refine LW.pure rfl rfl (RV.move rfl) ?_
                refine LW.noB rfl rfl rfl rfl (ne_beq (v := true) (not_t hq34) rfl) ?_
                refine LW.noB rfl rfl rfl rfl (ne_beq (v := true) (not_t hq34) rfl) ?_
                refine LW.pure rfl rfl (RV.pickTB rfl (not_t hq34) rfl) ?_
                refine LW.pure rfl rfl (RV.move rfl) ?_
                refine LW.noB rfl rfl rfl rfl (ne_beq (v := true) rfl rfl) ?_
                refine LW.noB rfl rfl rfl rfl (ne_beq (v := true) rfl rfl) ?_
                refine LW.noB rfl rfl rfl rfl (ne_beq (v := true) rfl rfl) ?_
                refine LW.noB rfl rfl rfl rfl (ne_beq (v := true) rfl rfl) ?_
                refine LW.noB rfl rfl rfl rfl (ne_beq (v := true) rfl rfl) ?_
                refine LW.pure rfl rfl (RV.pickTB rfl rfl rfl) ?_
                refine LW.pure rfl rfl (RV.move rfl) ?_
                refine LW.noB rfl rfl rfl rfl (ne_beq (v := true) rfl rfl) ?_
                refine LW.noB rfl rfl rfl rfl (ne_beq (v := true) rfl rfl) ?_
                refine LW.noB rfl rfl rfl rfl (ne_beq (v := true) rfl rfl) ?_
                refine LW.noB rfl rfl rfl rfl (ne_beq (v := true) rfl rfl) ?_
                refine LW.noB rfl rfl rfl rfl (ne_beq (v := true) rfl rfl) ?_
                refine LW.pure rfl rfl (RV.pickTB rfl rfl rfl) ?_
                replace H := H.pick (L' := [.own A41_0 c41_0 3 1 (List.map encN r8.1), .own A45_0 c45_0 3 1 (List.map encN r9.1), .own A47_0 c47_0 3 1 (List.map encN r10.1), .blk b1 24 [.int .i64 a0.nodes, .int .i64 a0.from_, .int .i64 a0.to_, .slice A_a0_drains a0.drains.length c_a0_drains]]) [2, 1, 0, 3] (by decide) rfl
                replace R0 := H.ext
                refine LW.nil (jK190 _ _ ⟨_, ?_, ⟨true, F, rfl, H⟩⟩)
                exact ⟨rfl, rfl, rfl, (look_slice rfl (by first | rfl | (simp; done) | omega | (simp; omega))), rfl, (look_slice rfl (by first | rfl | (simp; done) | omega | (simp; omega))), (look_slice rfl (by first | rfl | (simp; done) | omega | (simp; omega))), rfl, trivial⟩
            ·
              replace F := ite_n hp33 F
              have hq33 := dec_f hp33
              refine CW.region ?_
              refine LW.pure rfl rfl (RV.move rfl) ?_
              refine LW.pure rfl rfl (RV.nei rfl rfl) ?_
              refine LW.pure rfl rfl (RV.move rfl) ?_
              refine LW.noB rfl rfl rfl rfl (ne_beq (v := true) (not_t hq33) rfl) ?_
              refine LW.noB rfl rfl rfl rfl (ne_beq (v := true) (not_t hq33) rfl) ?_
              refine LW.pure rfl rfl (RV.pickTB rfl (not_t hq33) rfl) ?_
              refine LW.pure rfl rfl (RV.move rfl) ?_
              refine LW.noB rfl rfl rfl rfl (ne_beq (v := true) rfl rfl) ?_
              refine LW.noB rfl rfl rfl rfl (ne_beq (v := true) rfl rfl) ?_
              refine LW.pure rfl rfl (RV.pickTB rfl rfl rfl) ?_
              refine LW.pure rfl rfl (RV.move rfl) ?_
              refine LW.noB rfl rfl rfl rfl (ne_beq (v := true) rfl rfl) ?_
              refine LW.noB rfl rfl rfl rfl (ne_beq (v := true) rfl rfl) ?_
              refine LW.noB rfl rfl rfl rfl (ne_beq (v := true) rfl rfl) ?_
              refine LW.noB rfl rfl rfl rfl (ne_beq (v := true) rfl rfl) ?_
              refine LW.noB rfl rfl rfl rfl (ne_beq (v := true) rfl rfl) ?_
              refine LW.pure rfl rfl (RV.pickTB rfl rfl rfl) ?_
              refine LW.pure rfl rfl (RV.move rfl) ?_
              refine LW.noB rfl rfl rfl rfl (ne_beq (v := true) rfl rfl) ?_
              refine LW.noB rfl rfl rfl rfl (ne_beq (v := true) rfl rfl) ?_
              refine LW.noB rfl rfl rfl rfl (ne_beq (v := true) rfl rfl) ?_
              refine LW.noB rfl rfl rfl rfl (ne_beq (v := true) rfl rfl) ?_
              refine LW.noB rfl rfl rfl rfl (ne_beq (v := true) rfl rfl) ?_
              refine LW.pure rfl rfl (RV.pickTB rfl rfl rfl) ?_
              replace H := H.pick (L' := [.own A41_0 c41_0 3 1 (List.map encN r8.1), .own A45_0 c45_0 3 1 (List.map encN r9.1), .own A47_0 c47_0 3 1 (List.map encN r10.1), .blk b1 24 [.int .i64 a0.nodes, .int .i64 a0.from_, .int .i64 a0.to_, .slice A_a0_drains a0.drains.length c_a0_drains]]) [2, 1, 0, 3] (by decide) rfl
              replace R0 := H.ext
              refine LW.nil (jK190 _ _ ⟨_, ?_, ⟨true, F, rfl, H⟩⟩)
              exact ⟨rfl, rfl, rfl, (look_slice rfl (by first | rfl | (simp; done) | omega | (simp; omega))), rfl, (look_slice rfl (by first | rfl | (simp; done) | omega | (simp; omega))), (look_slice rfl (by first | rfl | (simp; done) | omega | (simp; omega))), rfl, trivial⟩
        ·
          replace F := ite_n hp3 F
          have hq3 := dec_f hp3
          refine CW.condT rfl (not_t hq3) ?_
          refine CW.seq fun K63 hK63 => ?_
          refine CW.region ?_
          refine LW.pure rfl rfl (RV.assign rfl) ?_
          refine LW.nil (hK63 _ _ ?_)
          refine CW.ret ?_
          obtain rfl := Option.some.inj F
          refine ⟨_, (ResOK.one rfl), ?_⟩
          refine ⟨(by first | rfl | simp), R0⟩
  ·
    intro K64 hK64 jK192
    by_cases hp37 : r26.2 = 0
    ·
      replace F := ite_y hp37 F
      have hq37 := dec_t hp37
      refine CW.region ?_
      refine LW.pure rfl rfl (RV.move rfl) ?_
      refine LW.pure rfl rfl (RV.nei rfl rfl) ?_
      refine LW.pure rfl rfl (RV.move rfl) ?_
      refine LW.pureYB rfl rfl rfl rfl (not_f hq37) (RV.move rfl) ?_
      refine LW.pureYB rfl rfl rfl rfl (not_f hq37) (RV.nei rfl rfl) ?_
      refine LW.pure rfl rfl (RV.pickFB rfl (not_f hq37) rfl) ?_
      replace H := H.pick (L' := [.blk b1 24 [.int .i64 a0.nodes, .int .i64 a0.from_, .int .i64 a0.to_, .slice A_a0_drains a0.drains.length c_a0_drains]]) [1] (by decide) rfl
      replace R0 := H.ext
      refine LW.nil (jK192 _ _ ⟨_, ?_, ⟨(!(decide (r26.1 = 4))), F, rfl, H⟩⟩)
      exact ⟨rfl, rfl, rfl, rfl, trivial⟩
    ·
      replace F := ite_n hp37 F
      have hq37 := dec_f hp37
      refine CW.region ?_
      refine LW.pure rfl rfl (RV.move rfl) ?_
      refine LW.pure rfl rfl (RV.nei rfl rfl) ?_
      refine LW.pure rfl rfl (RV.move rfl) ?_
      refine LW.noB rfl rfl rfl rfl (ne_beq (v := true) (not_t hq37) rfl) ?_
      refine LW.noB rfl rfl rfl rfl (ne_beq (v := true) (not_t hq37) rfl) ?_
      refine LW.pure rfl rfl (RV.pickTB rfl (not_t hq37) rfl) ?_
      replace H := H.pick (L' := [.blk b1 24 [.int .i64 a0.nodes, .int .i64 a0.from_, .int .i64 a0.to_, .slice A_a0_drains a0.drains.length c_a0_drains]]) [1] (by decide) rfl
      replace R0 := H.ext
      refine LW.nil (jK192 _ _ ⟨_, ?_, ⟨true, F, rfl, H⟩⟩)
      exact ⟨rfl, rfl, rfl, rfl, trivial⟩
end Go.D2

namespace Go.Tb
/-- A loop over 0 .. N - 1 with a state, that is left at the first i for which p does not hold. -/
theorem scan_loop {S R : Type} (N : Nat) (p : Nat → Bool) (g : Nat → S) (L : Nat → S → Int → Option R) (yes : Option R) (no : Nat → Option R)
    (step : ∀ n i : Nat, i < N → L (n + 1) (g i) (i : Int) = if p i = true then L n (g (i + 1)) ((i + 1 : Nat) : Int) else no i)
    (stop : ∀ n : Nat, L (n + 1) (g N) (N : Int) = yes) : ∀ (d n i : Nat), N = i + d → d < n → L n (g i) (i : Int) = match (List.range' i d).find? (fun j => !p j) with | none => yes | some j => no j
  | 0, n + 1, i, hd, hn => by
    have hi : i = N := by omega
    subst hi
    rw [stop n]; rfl
  | d + 1, n + 1, i, hd, hn => by
    rw [step n i (by omega), List.range'_succ, List.find?_cons]
    cases hp : p i
    · simp
    · simp only [if_true, Bool.not_true]
      exact scan_loop N p g L yes no step stop d n (i + 1) (by omega) (by omega)
theorem find_all {p : Nat → Bool} {i d : Nat} : (List.range' i d).find? (fun j => !p j) = none ↔ ∀ j, i ≤ j → j < i + d → p j = true := by
  rw [List.find?_eq_none]
  constructor
  · intro h j h1 h2
    have := h j (by rw [List.mem_range'_1]; omega)
    simpa using this
  · intro h x hx
    rw [List.mem_range'_1] at hx
    simp [h x hx.1 hx.2]
/-- A loop over 0 .. N - 1 with a state and no way out. -/
theorem for_loop {S R : Type} (N : Nat) (g : Nat → S) (L : Nat → S → Int → Option R) (yes : Option R)
    (step : ∀ n i : Nat, i < N → L (n + 1) (g i) (i : Int) = L n (g (i + 1)) ((i + 1 : Nat) : Int))
    (stop : ∀ n : Nat, L (n + 1) (g N) (N : Int) = yes) : ∀ (d n i : Nat), N = i + d → d < n → L n (g i) (i : Int) = yes
  | 0, n + 1, i, hd, hn => by
    have hi : i = N := by omega
    subst hi
    exact stop n
  | d + 1, n + 1, i, hd, hn => by
    rw [step n i (by omega)]
    exact for_loop N g L yes step stop d n (i + 1) (by omega) (by omega)
theorem for_loop0 {S R : Type} (N : Nat) (g : Nat → S) (L : Nat → S → Int → Option R) (yes : Option R)
    (step : ∀ n i : Nat, i < N → L (n + 1) (g i) (i : Int) = L n (g (i + 1)) ((i + 1 : Nat) : Int))
    (stop : ∀ n : Nat, L (n + 1) (g N) (N : Int) = yes) (hN : N ≤ 9223372036854775807) : L FU (g 0) 0 = yes :=
  for_loop N g L yes step stop N FU 0 (by omega) (by have := FU_pos; omega)
theorem scan_loop0 {S R : Type} (N : Nat) (p : Nat → Bool) (g : Nat → S) (L : Nat → S → Int → Option R) (yes no : Option R)
    (step : ∀ n i : Nat, i < N → L (n + 1) (g i) (i : Int) = if p i = true then L n (g (i + 1)) ((i + 1 : Nat) : Int) else no)
    (stop : ∀ n : Nat, L (n + 1) (g N) (N : Int) = yes) (hN : N ≤ 9223372036854775807) : L FU (g 0) 0 = if (∀ j, j < N → p j = true) then yes else no := by
  have h := scan_loop N p g L yes (fun _ => no) step stop N FU 0 (by omega) (by have := FU_pos; omega)
  refine Eq.trans h ?_
  cases hf : (List.range' 0 N).find? (fun j => !p j) with
  | none => rw [if_pos (fun j hj => find_all.1 hf j (by omega) (by omega))]
  | some j =>
    have h1 := List.find?_some hf
    have h2 := List.mem_of_find?_eq_some hf
    rw [List.mem_range'_1] at h2
    rw [if_neg]
    intro hall
    have := hall j (by omega)
    simp [this] at h1
/-- The same over the elements of a list. -/
theorem list_loop0 {α R : Type} (l : List α) (p : α → Bool) (L : Nat → Int → Option R) (yes no : Option R)
    (step : ∀ (n i : Nat) (x : α), l[i]? = some x → L (n + 1) (i : Int) = if p x = true then L n ((i + 1 : Nat) : Int) else no)
    (stop : ∀ n : Nat, L (n + 1) (l.length : Int) = yes) (hl : l.length ≤ 9223372036854775807) : L FU 0 = if l.all p = true then yes else no := by
  have h := scan_loop0 l.length (fun i => (l[i]?.map p).getD true) (fun _ => ()) (fun n _ i => L n i) yes no (fun n i hi => by
    have hx : l[i]? = some l[i] := by simp [hi]
    rw [step n i _ hx]; simp [hx]) stop hl
  refine Eq.trans h ?_
  by_cases ha : l.all p = true
  · rw [if_pos ha, if_pos]
    intro j hj
    have := List.all_eq_true.1 ha l[j] (List.getElem_mem hj)
    simp [hj, this]
  · rw [if_neg ha, if_neg]
    intro hc
    refine ha (List.all_eq_true.2 fun x hx => ?_)
    obtain ⟨j, hj⟩ := List.getElem?_of_mem hx
    have := hc j (lt_of_at hj)
    simpa [hj] using this
end Go.Tb
