/- Lemmas and walks that the proof of this claim uses: D2k1. -/
import Derived.Test.YtmpmomboclhjoaaTopFlows3
set_option linter.unusedVariables false
set_option linter.unusedSimpArgs false
namespace Go.D2
open Go.Tb Go.Proofs Go.RowKit
theorem Tc86 : callable Try.prog 86 = true := by kernel_rfl
theorem Tc87 : callable Try.prog 87 = true := by kernel_rfl
theorem Tc88 : callable Try.prog 88 = true := by kernel_rfl
theorem Tc89 : callable Try.prog 89 = true := by kernel_rfl
set_option maxRecDepth 20000 in
set_option maxHeartbeats 1000000 in
theorem drain_trail_ok {a0 : Net} {a1 : List Int} {a2 : Int} {a3 : Int} {a4 : Int} {A_a0_drains : Option Addr} {c_a0_drains : Nat} {A_a1 : Option Addr} {c_a1 : Nat} {wb : World} {R : List Ck} {w : World} {res : Trail × (List Int)} (h_a0_drains : Sl wb A_a0_drains c_a0_drains 3 (a0.drains.map encDrain)) (H : Hp wb w ([.own A_a1 c_a1 3 1 (List.map encN a1)] ++ R)) (F : drain_trail a0 a1 a2 a3 a4 = some res) : Calls Try.prog 87 #[.agg #[.int .i64 a0.nodes, .int .i64 a0.from_, .int .i64 a0.to_, .slice A_a0_drains a0.drains.length c_a0_drains], .slice A_a1 a1.length c_a1, .int .i64 a2, .int .i64 a3, .int .i64 a4] w (fun e w' => ∃ (A0_drains : Option Addr) (c0_drains : Nat), e = .returned (.agg #[.slice A0_drains res.1.drains.length c0_drains, .int .i64 res.1.amount]) ∧ res.2.length = a1.length ∧ Hp wb w' ([.own A_a1 c_a1 3 1 (List.map encN res.2), .own A0_drains c0_drains 3 1 (List.map encN res.1.drains)] ++ R)) := by
  refine calls_of_cw (args := [.agg #[.int .i64 a0.nodes, .int .i64 a0.from_, .int .i64 a0.to_, .slice A_a0_drains a0.drains.length c_a0_drains], .slice A_a1 a1.length c_a1, .int .i64 a2, .int .i64 a3, .int .i64 a4]) Try.func87 rfl rfl rfl rfl ?_
  have R0 := H.ext
  unfold drain_trail at F
  refine CW.seq fun K1 hK1 => ?_
  refine CW.region ?_
  refine LW.go rfl rfl (OW.box rfl fun b1 w1 N1 => ?_)
  replace H := H.new N1 N1.blk
  replace R0 := H.ext
  refine LW.go rfl rfl (OW.alloc Tz79 fun b2 w2 N2 => ?_)
  replace H := H.new N2 N2.blk
  replace R0 := H.ext
  refine LW.nil (hK1 _ _ ?_)
  refine CW.seq fun K2 hK2 => ?_
  refine CW.region ?_
  refine LW.pure rfl rfl (RV.move rfl) ?_
  refine LW.go rfl rfl (OW.buildSlice (e := 3) (vs := [.int .i64 a2]) (cs := [.int .i64 a2]) rfl (fun _ => by kernel_rfl) fun b3 w3 N3 => ?_)
  replace H := H.made' (k := 1) (t := 3) (enc := encN) (l := ([a2] : List Int)) N3 N3.blk (fun _ => rfl) rfl (by first | decide | omega | (simp; done) | (simp; omega))
  replace R0 := H.ext
  refine LW.pure rfl rfl (RV.assign rfl) ?_
  refine LW.pure rfl rfl (RV.assign rfl) ?_
  refine LW.nil (hK2 _ _ ?_)
  refine CW.seqJ (fun ρ wl1 => (∃ (t4_1 : Int) (l1 : List Int) (lo1 : Nat) (Al1 : Option Addr) (cl1 : Nat), drain_trail_k3 a1 t4_1 l1 lo1 = some res ∧ ρ = [(1, .slice A_a1 a1.length c_a1), (4, .int .i64 t4_1), (10, .pointer (some (⟨b2, 0, none⟩))), (12, .slice ((cutA Al1 cl1 1 lo1)) ((List.drop lo1 l1).length) ((cl1 - lo1)))] ∧ Hp wb wl1 ([.own A_a1 c_a1 3 1 (List.map encN a1), .own Al1 cl1 3 1 (List.map encN l1), .blk b2 79 [.slice none 0 0, .int .i64 0]] ++ R) ∧ lo1 ≤ l1.length)) ?_ ?_
  ·
    rintro _ wl1 ⟨t4_1, l1, lo1, Al1, cl1, F, rfl, H, hlo1⟩
    have R0 := H.ext
    unfold drain_trail_k3 at F
    refine CW.seq fun K3 hK3 => ?_
    refine CW.region ?_
    refine LW.pure rfl rfl (RV.move rfl) ?_
    refine LW.pure rfl rfl (RV.assign rfl) ?_
    refine LW.nil (hK3 _ _ ?_)
    refine CW.seqJ (fun ρ wl2 => (∃ (t15_1 : Int), drain_trail_k2 a1 l1 lo1 t15_1 = some res ∧ ρ = [(1, .slice A_a1 a1.length c_a1), (10, .pointer (some (⟨b2, 0, none⟩))), (12, .slice ((cutA Al1 cl1 1 lo1)) ((List.drop lo1 l1).length) ((cl1 - lo1))), (15, .int .i64 t15_1)] ∧ Hp wb wl2 ([.own A_a1 c_a1 3 1 (List.map encN a1), .own Al1 cl1 3 1 (List.map encN l1), .blk b2 79 [.slice none 0 0, .int .i64 0]] ++ R))) ?_ ?_
    ·
      rintro _ wl2 ⟨t15_1, F, rfl, H⟩
      have R0 := H.ext
      unfold drain_trail_k2 at F
      refine CW.seqJ (fun ρ wl3 => (∃ (l2 : List Int), drain_trail_k1 l1 lo1 t15_1 l2 = some res ∧ ρ = [(10, .pointer (some (⟨b2, 0, none⟩))), (12, .slice ((cutA Al1 cl1 1 lo1)) ((List.drop lo1 l1).length) ((cl1 - lo1))), (15, .int .i64 t15_1)] ∧ Hp wb wl3 ([.own Al1 cl1 3 1 (List.map encN l1), .own A_a1 c_a1 3 1 (List.map encN l2), .blk b2 79 [.slice none 0 0, .int .i64 0]] ++ R) ∧ l2.length = a1.length)) ?_ ?_
      ·
        rintro _ wl3 ⟨l2, F, rfl, H, hl1⟩
        have R0 := H.ext
        unfold drain_trail_k1 at F
        refine CW.seq fun K4 hK4 => ?_
        obtain ⟨r1, hr1, F⟩ := bnd_some F
        refine CW.region ?_
        refine LW.pure rfl rfl (RV.move rfl) ?_
        refine LW.go rfl rfl (OW.call Tc86 rfl (slices_Clone_int_ok (a0 := (List.drop lo1 l1)) ((H.own 0 rfl).sl.cutN hlo1) hr1) ?_)
        rintro _ w4 ⟨A12_0, c12_0, rfl, E1⟩
        refine ⟨_, rfl, ?_⟩
        replace H : Hp wb w4 ([.own A12_0 c12_0 3 1 (List.map encN r1), .own Al1 cl1 3 1 (List.map encN l1), .own A_a1 c_a1 3 1 (List.map encN l2), .blk b2 79 [.slice none 0 0, .int .i64 0]] ++ R) := H.append E1
        replace R0 := H.ext
        refine LW.pure rfl rfl (RV.move rfl) ?_
        refine LW.pure rfl rfl (RV.build (vs := [.slice A12_0 r1.length c12_0, .int .i64 t15_1]) (cs := [.slice A12_0 r1.length c12_0, .int .i64 t15_1]) rfl (fun _ => by kernel_rfl)) ?_
        refine LW.go rfl rfl (OW.store Tk79 rfl rfl (H.blk 3 rfl) (off := 0) (vs := [.slice A12_0 r1.length c12_0, .int .i64 t15_1]) rfl rfl rfl rfl rfl fun w5 S1 => ?_)
        replace H : Hp wb w5 ([.own A12_0 c12_0 3 1 (List.map encN r1), .own Al1 cl1 3 1 (List.map encN l1), .own A_a1 c_a1 3 1 (List.map encN l2), .blk b2 79 [.slice A12_0 r1.length c12_0, .int .i64 t15_1]] ++ R) := H.stored 3 rfl S1
        replace R0 := H.ext
        refine LW.nil (hK4 _ _ ?_)
        refine CW.ret ?_
        obtain rfl := Option.some.inj F
        refine ⟨_, (ResOK.cell1 ⟨_, rfl, run_loadVar_agg Tk79 (H.blk 3 rfl).cells (us := [.slice A12_0 r1.length c12_0, .int .i64 t15_1]) rfl rfl⟩), ?_⟩
        replace H := H.pickR (C := [.own A12_0 c12_0 3 1 (List.map encN r1), .own Al1 cl1 3 1 (List.map encN l1), .own A_a1 c_a1 3 1 (List.map encN l2), .blk b2 79 [.slice A12_0 r1.length c12_0, .int .i64 t15_1]]) (C' := [.own A_a1 c_a1 3 1 (List.map encN l2), .own A12_0 c12_0 3 1 (List.map encN r1)]) [2, 0] (by decide) rfl
        replace R0 := H.ext
        exact ⟨A12_0, c12_0, (by first | rfl | (simp; done) | (simp; omega)), (by first | rfl | assumption | omega | (simp; done) | (simp; assumption) | (simp; omega)), H⟩
      ·
        intro K5 hK5 jK297
        refine CW.seq fun K6 hK6 => ?_
        refine CW.region ?_
        refine LW.pure rfl rfl (RV.move rfl) ?_
        refine LW.pure rfl rfl (RV.len Ts30 rfl) ?_
        refine LW.pure rfl rfl (RV.move rfl) ?_
        refine LW.nil (hK6 _ _ ?_)
        refine CW.block ?_
        refine CW.loop (fun meas ρ wl4 => ∃ (t85_1 : Int) (l3 : List Int), drain_trail_L1 l1 lo1 t15_1 meas t85_1 l3 = some res ∧ ρ = [(1, .slice A_a1 l3.length c_a1), (10, .pointer (some (⟨b2, 0, none⟩))), (12, .slice ((cutA Al1 cl1 1 lo1)) ((List.drop lo1 l1).length) ((cl1 - lo1))), (15, .int .i64 t15_1), (83, .slice ((cutA Al1 cl1 1 lo1)) ((List.drop lo1 l1).length) ((cl1 - lo1))), (84, .int .i64 (((List.drop lo1 l1).length : Int))), (85, .int .i64 t85_1)] ∧ Hp wb wl4 ([.own A_a1 c_a1 3 1 (List.map encN l3), .own Al1 cl1 3 1 (List.map encN l1), .blk b2 79 [.slice none 0 0, .int .i64 0]] ++ R) ∧ l3.length = a1.length) FU ⟨_, ?_, ((0 : Int)), a1, F, rfl, H, (show a1.length = a1.length by first | rfl | assumption | omega | (simp; done) | (simp; assumption) | (simp; omega))⟩ ?_
        · exact ⟨(look_slice rfl (by first | rfl | (simp; done) | omega | (simp; omega))), rfl, rfl, rfl, rfl, rfl, rfl, trivial⟩
        rintro mk1 _ wl4 ⟨t85_1, l3, F, rfl, H, hl2⟩
        have R0 := H.ext
        replace F := drain_trail_L1_s F
        obtain ⟨mk1, rfl, F⟩ := F
        generalize hrec1 : drain_trail_L1 l1 lo1 t15_1 mk1 = rec1 at F
        unfold drain_trail_B1 at F
        refine CW.seq fun K7 hK7 => ?_
        refine CW.region ?_
        refine LW.pure rfl rfl (RV.lss rfl rfl) ?_
        refine LW.nil (hK7 _ _ ?_)
        refine CW.seq fun K8 hK8 => ?_
        by_cases hp1 : t85_1 < (((List.drop lo1 l1).length : Int))
        ·
          replace F := ite_y hp1 F
          have hq1 := dec_t hp1
          refine CW.condT rfl hq1 ?_
          refine CW.skip (hK8 _ _ ?_)
          refine CW.seq fun K9 hK9 => ?_
          refine CW.block ?_
          refine CW.seq fun K10 hK10 => ?_
          obtain ⟨x1, hbx1, hx1, F⟩ := ix_some F
          refine CW.region ?_
          refine LW.pure rfl rfl (RV.indexAddr Ts30 rfl rfl hbx1 (((H.own 1 rfl).sl.cutN hlo1).addr_ hx1)) ?_
          refine LW.pure rfl rfl (RV.load1 Tk3 rfl (((H.own 1 rfl).sl.cutN hlo1).at_ hx1) rfl) ?_
          refine LW.pure rfl rfl (RV.assign rfl) ?_
          refine LW.nil (hK10 _ _ ?_)
          obtain ⟨x2, hbx2, hx2, F⟩ := ix_some F
          obtain ⟨hg1, F⟩ := gd_some F
          obtain ⟨x3, hbx3, hx3, F⟩ := ix_some F
          refine CW.region ?_
          refine LW.pure rfl rfl (RV.move rfl) ?_
          refine LW.pure rfl rfl (RV.move rfl) ?_
          refine LW.pure rfl rfl (RV.indexAddr Ts30 rfl rfl hbx2 ((H.own 0 rfl).sl.addr_ hx2)) ?_
          refine LW.pure rfl rfl (RV.load1 Tk3 rfl ((H.own 0 rfl).sl.at_ hx2) rfl) ?_
          refine LW.pure rfl rfl (RV.move rfl) ?_
          refine LW.pure rfl rfl (RV.sub rfl rfl hg1) ?_
          refine LW.pure rfl rfl (RV.indexAddr Ts30 rfl rfl hbx3 ((H.own 0 rfl).sl.addr_ hx3)) ?_
          refine LW.go rfl rfl (OW.storeO (enc := encN) (vs := [.int .i64 (x2 - t15_1)]) 0 (x2 - t15_1) Tk3 rfl rfl (H.own 0 rfl) (fun _ => rfl) rfl hx3 rfl rfl (by decide) rfl rfl fun w6 M1 O1 => ?_)
          replace H : Hp wb w6 ([.own A_a1 c_a1 3 1 (List.map encN ((l3.set (Int.toNat x1) (x2 - t15_1)))), .own Al1 cl1 3 1 (List.map encN l1), .blk b2 79 [.slice none 0 0, .int .i64 0]] ++ R) := H.mod 0 rfl M1 O1 (.inl rfl)
          replace R0 := H.ext
          refine LW.nil (hK9 _ _ ?_)
          obtain ⟨hg2, F⟩ := gd_some F
          refine CW.region ?_
          refine LW.pure rfl rfl (RV.add rfl rfl hg2) ?_
          refine LW.pure rfl rfl (RV.move rfl) ?_
          refine LW.nil ?_
          subst hrec1
          refine ⟨mk1, Nat.lt_succ_self _, _, ?_, (t85_1 + 1), ((l3.set (Int.toNat x1) (x2 - t15_1))), F, rfl, H, (show ((l3.set (Int.toNat x1) (x2 - t15_1))).length = a1.length by first | rfl | assumption | omega | (simp; done) | (simp; assumption) | (simp; omega))⟩
          exact ⟨(look_slice rfl (by first | rfl | (simp; done) | omega | (simp; omega))), rfl, rfl, rfl, rfl, rfl, rfl, trivial⟩
        ·
          replace F := ite_n hp1 F
          have hq1 := dec_f hp1
          refine CW.condF rfl hq1 ?_
          replace H := H.pickR (C := [.own A_a1 c_a1 3 1 (List.map encN l3), .own Al1 cl1 3 1 (List.map encN l1), .blk b2 79 [.slice none 0 0, .int .i64 0]]) (C' := [.own Al1 cl1 3 1 (List.map encN l1), .own A_a1 c_a1 3 1 (List.map encN l3), .blk b2 79 [.slice none 0 0, .int .i64 0]]) [1, 0, 2] (by decide) rfl
          replace R0 := H.ext
          refine CW.exit (jK297 _ _ ⟨_, ?_, ⟨l3, F, rfl, H, (show l3.length = a1.length by first | rfl | assumption | omega | (simp; done) | (simp; assumption) | (simp; omega))⟩⟩)
          exact ⟨rfl, rfl, rfl, trivial⟩
    ·
      intro K11 hK11 jK311
      refine CW.seq fun K12 hK12 => ?_
      refine CW.region ?_
      refine LW.pure rfl rfl (RV.move rfl) ?_
      refine LW.pure rfl rfl (RV.len Ts30 rfl) ?_
      refine LW.pure rfl rfl (RV.move rfl) ?_
      refine LW.nil (hK12 _ _ ?_)
      refine CW.block ?_
      refine CW.loop (fun meas ρ wl5 => ∃ (t15_2 : Int) (t72_1 : Int), drain_trail_L2 a1 l1 lo1 meas t15_2 t72_1 = some res ∧ ρ = [(1, .slice A_a1 a1.length c_a1), (10, .pointer (some (⟨b2, 0, none⟩))), (12, .slice ((cutA Al1 cl1 1 lo1)) ((List.drop lo1 l1).length) ((cl1 - lo1))), (15, .int .i64 t15_2), (70, .slice ((cutA Al1 cl1 1 lo1)) ((List.drop lo1 l1).length) ((cl1 - lo1))), (71, .int .i64 (((List.drop lo1 l1).length : Int))), (72, .int .i64 t72_1)] ∧ Hp wb wl5 ([.own A_a1 c_a1 3 1 (List.map encN a1), .own Al1 cl1 3 1 (List.map encN l1), .blk b2 79 [.slice none 0 0, .int .i64 0]] ++ R)) FU ⟨_, ?_, t4_1, ((0 : Int)), F, rfl, H⟩ ?_
      · exact ⟨(look_slice rfl (by first | rfl | (simp; done) | omega | (simp; omega))), rfl, rfl, rfl, rfl, rfl, rfl, trivial⟩
      rintro mk2 _ wl5 ⟨t15_2, t72_1, F, rfl, H⟩
      have R0 := H.ext
      replace F := drain_trail_L2_s F
      obtain ⟨mk2, rfl, F⟩ := F
      generalize hrec2 : drain_trail_L2 a1 l1 lo1 mk2 = rec2 at F
      unfold drain_trail_B2 at F
      refine CW.seq fun K13 hK13 => ?_
      refine CW.region ?_
      refine LW.pure rfl rfl (RV.lss rfl rfl) ?_
      refine LW.nil (hK13 _ _ ?_)
      refine CW.seq fun K14 hK14 => ?_
      by_cases hp2 : t72_1 < (((List.drop lo1 l1).length : Int))
      ·
        replace F := ite_y hp2 F
        have hq2 := dec_t hp2
        refine CW.condT rfl hq2 ?_
        refine CW.skip (hK14 _ _ ?_)
        refine CW.seq fun K15 hK15 => ?_
        refine CW.block ?_
        refine CW.seq fun K16 hK16 => ?_
        obtain ⟨x4, hbx4, hx4, F⟩ := ix_some F
        refine CW.region ?_
        refine LW.pure rfl rfl (RV.indexAddr Ts30 rfl rfl hbx4 (((H.own 1 rfl).sl.cutN hlo1).addr_ hx4)) ?_
        refine LW.pure rfl rfl (RV.load1 Tk3 rfl (((H.own 1 rfl).sl.cutN hlo1).at_ hx4) rfl) ?_
        refine LW.pure rfl rfl (RV.assign rfl) ?_
        refine LW.nil (hK16 _ _ ?_)
        obtain ⟨x5, hbx5, hx5, F⟩ := ix_some F
        refine CW.region ?_
        refine LW.pure rfl rfl (RV.move rfl) ?_
        refine LW.pure rfl rfl (RV.move rfl) ?_
        refine LW.pure rfl rfl (RV.move rfl) ?_
        refine LW.pure rfl rfl (RV.indexAddr Ts30 rfl rfl hbx5 ((H.own 0 rfl).sl.addr_ hx5)) ?_
        refine LW.pure rfl rfl (RV.load1 Tk3 rfl ((H.own 0 rfl).sl.at_ hx5) rfl) ?_
        refine LW.pure rfl rfl (RV.min2 rfl rfl) ?_
        refine LW.pure rfl rfl (RV.assign rfl) ?_
        refine LW.nil (hK15 _ _ ?_)
        obtain ⟨hg3, F⟩ := gd_some F
        refine CW.region ?_
        refine LW.pure rfl rfl (RV.add rfl rfl hg3) ?_
        refine LW.pure rfl rfl (RV.move rfl) ?_
        refine LW.nil ?_
        subst hrec2
        refine ⟨mk2, Nat.lt_succ_self _, _, ?_, (min t15_2 x5), (t72_1 + 1), F, rfl, H⟩
        exact ⟨(look_slice rfl (by first | rfl | (simp; done) | omega | (simp; omega))), rfl, rfl, rfl, rfl, rfl, rfl, trivial⟩
      ·
        replace F := ite_n hp2 F
        have hq2 := dec_f hp2
        refine CW.condF rfl hq2 ?_
        refine CW.exit (jK311 _ _ ⟨_, ?_, ⟨t15_2, F, rfl, H⟩⟩)
        exact ⟨(look_slice rfl (by first | rfl | (simp; done) | omega | (simp; omega))), rfl, rfl, rfl, trivial⟩
  ·
    intro K17 hK17 jK325
    refine CW.block ?_
    replace H := H.nilOwn 3 1
    replace R0 := H.ext
    replace H := H.pickR (C := [.own none 0 3 1 (List.map encN (([] : List Int))), .own (some ⟨b3, 0, none⟩) ((([a2] : List Int)).length) 3 1 (List.map encN (([a2] : List Int))), .blk b2 79 [.slice none 0 0, .int .i64 0], .blk b1 24 [.int .i64 a0.nodes, .int .i64 a0.from_, .int .i64 a0.to_, .slice A_a0_drains a0.drains.length c_a0_drains], .own A_a1 c_a1 3 1 (List.map encN a1)]) (C' := [.own A_a1 c_a1 3 1 (List.map encN a1), .own (some ⟨b3, 0, none⟩) ((([a2] : List Int)).length) 3 1 (List.map encN (([a2] : List Int))), .own none 0 3 1 (List.map encN (([] : List Int))), .blk b1 24 [.int .i64 a0.nodes, .int .i64 a0.from_, .int .i64 a0.to_, .slice A_a0_drains a0.drains.length c_a0_drains], .blk b2 79 [.slice none 0 0, .int .i64 0]]) [4, 1, 0, 3, 2] (by decide) rfl
    replace R0 := H.ext
    refine CW.loop (fun meas ρ wl6 => ∃ (t2_1 : Int) (l4 : List Int) (l5 : List Int) (Al4 : Option Addr) (cl4 : Nat) (Al5 : Option Addr) (cl5 : Nat), drain_trail_L4 a0 a1 a3 a4 meas t2_1 l4 l5 = some res ∧ ρ = [(1, .slice A_a1 a1.length c_a1), (2, .int .i64 t2_1), (3, .int .i64 a3), (4, .int .i64 a4), (5, .pointer (some (⟨b1, 0, none⟩))), (10, .pointer (some (⟨b2, 0, none⟩))), (11, .slice Al4 l4.length cl4), (12, .slice Al5 l5.length cl5)] ∧ Hp wb wl6 ([.own A_a1 c_a1 3 1 (List.map encN a1), .own Al4 cl4 3 1 (List.map encN l4), .own Al5 cl5 3 1 (List.map encN l5), .blk b1 24 [.int .i64 a0.nodes, .int .i64 a0.from_, .int .i64 a0.to_, .slice A_a0_drains a0.drains.length c_a0_drains], .blk b2 79 [.slice none 0 0, .int .i64 0]] ++ R)) FU ⟨_, ?_, a2, (([a2] : List Int)), (([] : List Int)), (some ⟨b3, 0, none⟩), ((([a2] : List Int)).length), none, 0, F, rfl, H⟩ ?_
    · exact ⟨(look_slice rfl (by first | rfl | (simp; done) | omega | (simp; omega))), rfl, rfl, rfl, rfl, rfl, (look_slice rfl (by first | rfl | (simp; done) | omega | (simp; omega))), (look_slice rfl (by first | rfl | (simp; done) | omega | (simp; omega))), trivial⟩
    rintro mk3 _ wl6 ⟨t2_1, l4, l5, Al4, cl4, Al5, cl5, F, rfl, H⟩
    have R0 := H.ext
    replace F := drain_trail_L4_s F
    obtain ⟨mk3, rfl, F⟩ := F
    generalize hrec3 : drain_trail_L4 a0 a1 a3 a4 mk3 = rec3 at F
    unfold drain_trail_B4 at F
    refine CW.seq fun K18 hK18 => ?_
    refine CW.seqJ (fun ρ wl7 => (∃ (t29_1 : Bool), drain_trail_k6 a0 a1 a4 t2_1 l4 l5 rec3 t29_1 = some res ∧ ρ = [(1, .slice A_a1 a1.length c_a1), (2, .int .i64 t2_1), (3, .int .i64 a3), (4, .int .i64 a4), (5, .pointer (some (⟨b1, 0, none⟩))), (10, .pointer (some (⟨b2, 0, none⟩))), (11, .slice Al4 l4.length cl4), (12, .slice Al5 l5.length cl5), (29, .bool t29_1)] ∧ Hp wb wl7 ([.own A_a1 c_a1 3 1 (List.map encN a1), .own Al4 cl4 3 1 (List.map encN l4), .own Al5 cl5 3 1 (List.map encN l5), .blk b1 24 [.int .i64 a0.nodes, .int .i64 a0.from_, .int .i64 a0.to_, .slice A_a0_drains a0.drains.length c_a0_drains], .blk b2 79 [.slice none 0 0, .int .i64 0]] ++ R))) ?_ ?_
    ·
      rintro _ wl7 ⟨t29_1, F, rfl, H⟩
      have R0 := H.ext
      unfold drain_trail_k6 at F
      by_cases hp3 : t29_1 = true
      ·
        replace F := ite_y hp3 F
        have hq3 : t29_1 = true := hp3
        refine CW.condT rfl hq3 ?_
        refine CW.skip (hK18 _ _ ?_)
        refine CW.block ?_
        refine CW.seq fun K19 hK19 => ?_
        refine CW.region ?_
        refine LW.pure rfl rfl (RV.assign rfl) ?_
        refine LW.nil (hK19 _ _ ?_)
        refine CW.seqJ (fun ρ wl8 => (∃ (t13_1 : Int), drain_trail_k4 a0 a1 l4 l5 rec3 t13_1 = some res ∧ ρ = [(1, .slice A_a1 a1.length c_a1), (2, .int .i64 t2_1), (3, .int .i64 a3), (4, .int .i64 a4), (5, .pointer (some (⟨b1, 0, none⟩))), (10, .pointer (some (⟨b2, 0, none⟩))), (11, .slice Al4 l4.length cl4), (12, .slice Al5 l5.length cl5), (13, .int .i64 t13_1)] ∧ Hp wb wl8 ([.own A_a1 c_a1 3 1 (List.map encN a1), .own Al4 cl4 3 1 (List.map encN l4), .own Al5 cl5 3 1 (List.map encN l5), .blk b1 24 [.int .i64 a0.nodes, .int .i64 a0.from_, .int .i64 a0.to_, .slice A_a0_drains a0.drains.length c_a0_drains], .blk b2 79 [.slice none 0 0, .int .i64 0]] ++ R))) ?_ ?_
        ·
          rintro _ wl8 ⟨t13_1, F, rfl, H⟩
          have R0 := H.ext
          unfold drain_trail_k4 at F
          refine CW.seq fun K20 hK20 => ?_
          obtain ⟨hg4, F⟩ := gd_some F
          refine CW.region ?_
          refine LW.pure rfl rfl (RV.move rfl) ?_
          refine LW.pure rfl rfl (RV.move rfl) ?_
          refine LW.go rfl rfl (OW.buildSlice (e := 3) (vs := [.int .i64 t13_1]) (cs := [.int .i64 t13_1]) rfl (fun _ => by kernel_rfl) fun b4 w7 N4 => ?_)
          replace H := H.made' (k := 1) (t := 3) (enc := encN) (l := ([t13_1] : List Int)) N4 N4.blk (fun _ => rfl) rfl (by first | decide | omega | (simp; done) | (simp; omega))
          replace R0 := H.ext
          refine LW.go rfl rfl (OW.appendG (enc := encN) (l := l5) (xs := ([t13_1] : List Int)) Ts30 rfl (look_slice rfl (by first | rfl | (simp; done) | (simp; omega))) (H.own 3 rfl) (H.own 0 rfl).sl (fun _ => rfl) rfl rfl hg4 (by decide) fun A1 c1 w8 O2 M2 D1 => ?_)
          replace H : Hp wb w8 ([.own (some ⟨b4, 0, none⟩) ((([t13_1] : List Int)).length) 3 1 (List.map encN (([t13_1] : List Int))), .own A_a1 c_a1 3 1 (List.map encN a1), .own Al4 cl4 3 1 (List.map encN l4), .own A1 c1 3 1 (List.map encN ((l5 ++ ([t13_1] : List Int)))), .blk b1 24 [.int .i64 a0.nodes, .int .i64 a0.from_, .int .i64 a0.to_, .slice A_a0_drains a0.drains.length c_a0_drains], .blk b2 79 [.slice none 0 0, .int .i64 0]] ++ R) := H.mod 3 rfl M2 O2 D1
          replace R0 := H.ext
          refine LW.pure rfl rfl (RV.assign rfl) ?_
          refine LW.nil (hK20 _ _ ?_)
          refine CW.seq fun K21 hK21 => ?_
          obtain ⟨x6, hbx6, hx6, F⟩ := ix_some F
          refine CW.region ?_
          refine LW.pure rfl rfl (RV.fieldAddr Tf24_3 rfl) ?_
          refine LW.pure rfl rfl (RV.load1 Tk22 rfl ((H.blk 4 rfl).cells.off 3) rfl) ?_
          refine LW.pure rfl rfl (RV.move rfl) ?_
          refine LW.pure rfl rfl (RV.indexAddr Ts22 rfl rfl hbx6 (h_a0_drains.addr_ hx6)) ?_
          refine LW.pure rfl rfl (RV.fieldAddr Tf52_1 rfl) ?_
          refine LW.pure rfl rfl (RV.load1 Tk3 rfl (((h_a0_drains.at_ hx6).ext R0).off 1) rfl) ?_
          refine LW.pure rfl rfl (RV.assign rfl) ?_
          refine LW.nil (hK21 _ _ ?_)
          refine CW.seq fun K22 hK22 => ?_
          refine CW.seq fun K23 hK23 => ?_
          obtain ⟨r2, hr2, F⟩ := bnd_some F
          refine CW.region ?_
          refine LW.pure rfl rfl (RV.move rfl) ?_
          refine LW.pure rfl rfl (RV.move rfl) ?_
          refine LW.go rfl rfl (OW.call Tc91 rfl (slices_Index_int_ok (a0 := l4) (a1 := x6.to_) (H.own 2 rfl).sl hr2) ?_)
          rintro _ w9 ⟨rfl, E2⟩
          refine ⟨_, rfl, ?_⟩
          replace H := H.grow E2
          replace R0 := H.ext
          refine LW.pure rfl rfl (RV.assign rfl) ?_
          refine LW.nil (hK23 _ _ ?_)
          refine CW.seq fun K24 hK24 => ?_
          refine CW.region ?_
          refine LW.pure rfl rfl (RV.move rfl) ?_
          refine LW.pure rfl rfl (RV.geq rfl rfl) ?_
          refine LW.nil (hK24 _ _ ?_)
          by_cases hp4 : (0 : Int) ≤ r2
          ·
            replace F := ite_y hp4 F
            have hq4 := dec_t hp4
            refine CW.condT rfl hq4 ?_
            refine CW.seq fun K25 hK25 => ?_
            obtain ⟨hg5, F⟩ := gd_some F
            refine CW.region ?_
            refine LW.pure rfl rfl (RV.move rfl) ?_
            refine LW.pure rfl rfl (RV.move rfl) ?_
            refine LW.pure rfl rfl (RV.cutL (l := (l5 ++ ([t13_1] : List Int))) Ts30 rfl rfl hg5 (H.own 3 rfl).sl.le rfl) ?_
            refine LW.pure rfl rfl (RV.assign rfl) ?_
            refine LW.nil (hK25 _ _ ?_)
            refine CW.seq fun K26 hK26 => ?_
            refine CW.region ?_
            refine LW.pure rfl rfl (RV.assign rfl) ?_
            refine LW.nil (hK26 _ _ ?_)
            replace H := H.pickR (C := [.own (some ⟨b4, 0, none⟩) ((([t13_1] : List Int)).length) 3 1 (List.map encN (([t13_1] : List Int))), .own A_a1 c_a1 3 1 (List.map encN a1), .own Al4 cl4 3 1 (List.map encN l4), .own A1 c1 3 1 (List.map encN ((l5 ++ ([t13_1] : List Int)))), .blk b1 24 [.int .i64 a0.nodes, .int .i64 a0.from_, .int .i64 a0.to_, .slice A_a0_drains a0.drains.length c_a0_drains], .blk b2 79 [.slice none 0 0, .int .i64 0]]) (C' := [.own A_a1 c_a1 3 1 (List.map encN a1), .own A1 c1 3 1 (List.map encN ((l5 ++ ([t13_1] : List Int)))), .blk b2 79 [.slice none 0 0, .int .i64 0]]) [1, 3, 5] (by decide) rfl
            replace R0 := H.ext
            refine CW.exit (jK325 _ _ ⟨_, ?_, ⟨((20 : Int)), ((l5 ++ ([t13_1] : List Int))), (Int.toNat r2), A1, c1, F, rfl, H, (by omega)⟩⟩)
            exact ⟨(look_slice rfl (by first | rfl | (simp; done) | omega | (simp; omega))), rfl, rfl, rfl, trivial⟩
          ·
            replace F := ite_n hp4 F
            have hq4 := dec_f hp4
            refine CW.condF rfl hq4 ?_
            refine CW.skip (hK22 _ _ ?_)
            obtain ⟨hg6, F⟩ := gd_some F
            refine CW.region ?_
            refine LW.pure rfl rfl (RV.move rfl) ?_
            refine LW.pure rfl rfl (RV.move rfl) ?_
            refine LW.go rfl rfl (OW.buildSlice (e := 3) (vs := [.int .i64 x6.to_]) (cs := [.int .i64 x6.to_]) rfl (fun _ => by kernel_rfl) fun b5 w10 N5 => ?_)
            replace H := H.made' (k := 1) (t := 3) (enc := encN) (l := ([x6.to_] : List Int)) N5 N5.blk (fun _ => rfl) rfl (by first | decide | omega | (simp; done) | (simp; omega))
            replace R0 := H.ext
            refine LW.go rfl rfl (OW.appendG (enc := encN) (l := l4) (xs := ([x6.to_] : List Int)) Ts30 rfl (look_slice rfl (by first | rfl | (simp; done) | (simp; omega))) (H.own 3 rfl) (H.own 0 rfl).sl (fun _ => rfl) rfl rfl hg6 (by decide) fun A2 c2 w11 O3 M3 D2 => ?_)
            replace H : Hp wb w11 ([.own (some ⟨b5, 0, none⟩) ((([x6.to_] : List Int)).length) 3 1 (List.map encN (([x6.to_] : List Int))), .own (some ⟨b4, 0, none⟩) ((([t13_1] : List Int)).length) 3 1 (List.map encN (([t13_1] : List Int))), .own A_a1 c_a1 3 1 (List.map encN a1), .own A2 c2 3 1 (List.map encN ((l4 ++ ([x6.to_] : List Int)))), .own A1 c1 3 1 (List.map encN ((l5 ++ ([t13_1] : List Int)))), .blk b1 24 [.int .i64 a0.nodes, .int .i64 a0.from_, .int .i64 a0.to_, .slice A_a0_drains a0.drains.length c_a0_drains], .blk b2 79 [.slice none 0 0, .int .i64 0]] ++ R) := H.mod 3 rfl M3 O3 D2
            replace R0 := H.ext
            refine LW.pure rfl rfl (RV.assign rfl) ?_
            refine LW.nil ?_
            replace H := H.pickR (C := [.own (some ⟨b5, 0, none⟩) ((([x6.to_] : List Int)).length) 3 1 (List.map encN (([x6.to_] : List Int))), .own (some ⟨b4, 0, none⟩) ((([t13_1] : List Int)).length) 3 1 (List.map encN (([t13_1] : List Int))), .own A_a1 c_a1 3 1 (List.map encN a1), .own A2 c2 3 1 (List.map encN ((l4 ++ ([x6.to_] : List Int)))), .own A1 c1 3 1 (List.map encN ((l5 ++ ([t13_1] : List Int)))), .blk b1 24 [.int .i64 a0.nodes, .int .i64 a0.from_, .int .i64 a0.to_, .slice A_a0_drains a0.drains.length c_a0_drains], .blk b2 79 [.slice none 0 0, .int .i64 0]]) (C' := [.own A_a1 c_a1 3 1 (List.map encN a1), .own A2 c2 3 1 (List.map encN ((l4 ++ ([x6.to_] : List Int)))), .own A1 c1 3 1 (List.map encN ((l5 ++ ([t13_1] : List Int)))), .blk b1 24 [.int .i64 a0.nodes, .int .i64 a0.from_, .int .i64 a0.to_, .slice A_a0_drains a0.drains.length c_a0_drains], .blk b2 79 [.slice none 0 0, .int .i64 0]]) [2, 3, 4, 5, 6] (by decide) rfl
            replace R0 := H.ext
            subst hrec3
            refine ⟨mk3, Nat.lt_succ_self _, _, ?_, x6.to_, ((l4 ++ ([x6.to_] : List Int))), ((l5 ++ ([t13_1] : List Int))), A2, c2, A1, c1, F, rfl, H⟩
            exact ⟨(look_slice rfl (by first | rfl | (simp; done) | omega | (simp; omega))), rfl, rfl, rfl, rfl, rfl, (look_slice rfl (by first | rfl | (simp; done) | omega | (simp; omega))), (look_slice rfl (by first | rfl | (simp; done) | omega | (simp; omega))), trivial⟩
        ·
          intro K27 hK27 jK387
          refine CW.block ?_
          refine CW.loop (fun meas ρ wl9 => ∃ (t13_2 : Int), drain_trail_L3 a0 a1 t2_1 l4 l5 rec3 meas t13_2 = some res ∧ ρ = [(1, .slice A_a1 a1.length c_a1), (2, .int .i64 t2_1), (3, .int .i64 a3), (4, .int .i64 a4), (5, .pointer (some (⟨b1, 0, none⟩))), (10, .pointer (some (⟨b2, 0, none⟩))), (11, .slice Al4 l4.length cl4), (12, .slice Al5 l5.length cl5), (13, .int .i64 t13_2)] ∧ Hp wb wl9 ([.own A_a1 c_a1 3 1 (List.map encN a1), .own Al4 cl4 3 1 (List.map encN l4), .own Al5 cl5 3 1 (List.map encN l5), .blk b1 24 [.int .i64 a0.nodes, .int .i64 a0.from_, .int .i64 a0.to_, .slice A_a0_drains a0.drains.length c_a0_drains], .blk b2 79 [.slice none 0 0, .int .i64 0]] ++ R)) FU ⟨_, ?_, ((0 : Int)), F, rfl, H⟩ ?_
          · exact ⟨(look_slice rfl (by first | rfl | (simp; done) | omega | (simp; omega))), rfl, rfl, rfl, rfl, rfl, (look_slice rfl (by first | rfl | (simp; done) | omega | (simp; omega))), (look_slice rfl (by first | rfl | (simp; done) | omega | (simp; omega))), rfl, trivial⟩
          rintro mk4 _ wl9 ⟨t13_2, F, rfl, H⟩
          have R0 := H.ext
          replace F := drain_trail_L3_s F
          obtain ⟨mk4, rfl, F⟩ := F
          generalize hrec4 : drain_trail_L3 a0 a1 t2_1 l4 l5 rec3 mk4 = rec4 at F
          unfold drain_trail_B3 at F
          refine CW.seq fun K28 hK28 => ?_
          refine CW.seqJ (fun ρ wl10 => (∃ (t44_1 : Bool), drain_trail_k5 a0 a1 l4 l5 rec3 t13_2 rec4 t44_1 = some res ∧ ρ = [(1, .slice A_a1 a1.length c_a1), (2, .int .i64 t2_1), (3, .int .i64 a3), (4, .int .i64 a4), (5, .pointer (some (⟨b1, 0, none⟩))), (10, .pointer (some (⟨b2, 0, none⟩))), (11, .slice Al4 l4.length cl4), (12, .slice Al5 l5.length cl5), (13, .int .i64 t13_2), (44, .bool t44_1)] ∧ Hp wb wl10 ([.own A_a1 c_a1 3 1 (List.map encN a1), .own Al4 cl4 3 1 (List.map encN l4), .own Al5 cl5 3 1 (List.map encN l5), .blk b1 24 [.int .i64 a0.nodes, .int .i64 a0.from_, .int .i64 a0.to_, .slice A_a0_drains a0.drains.length c_a0_drains], .blk b2 79 [.slice none 0 0, .int .i64 0]] ++ R))) ?_ ?_
          ·
            rintro _ wl10 ⟨t44_1, F, rfl, H⟩
            have R0 := H.ext
            unfold drain_trail_k5 at F
            by_cases hp5 : t44_1 = true
            ·
              replace F := ite_y hp5 F
              have hq5 : t44_1 = true := hp5
              refine CW.condT rfl hq5 ?_
              refine CW.skip (hK28 _ _ ?_)
              refine CW.block ?_
              obtain ⟨hg7, F⟩ := gd_some F
              refine CW.region ?_
              refine LW.pure rfl rfl (RV.move rfl) ?_
              refine LW.pure rfl rfl (RV.add rfl rfl hg7) ?_
              refine LW.pure rfl rfl (RV.assign rfl) ?_
              refine LW.nil ?_
              subst hrec4
              refine ⟨mk4, Nat.lt_succ_self _, _, ?_, (t13_2 + 1), F, rfl, H⟩
              exact ⟨(look_slice rfl (by first | rfl | (simp; done) | omega | (simp; omega))), rfl, rfl, rfl, rfl, rfl, (look_slice rfl (by first | rfl | (simp; done) | omega | (simp; omega))), (look_slice rfl (by first | rfl | (simp; done) | omega | (simp; omega))), rfl, trivial⟩
            ·
              replace F := ite_n hp5 F
              have hq5 : t44_1 = false := raw_f hp5
              refine CW.condF rfl hq5 ?_
              refine CW.exit (jK387 _ _ ⟨_, ?_, ⟨t13_2, F, rfl, H⟩⟩)
              exact ⟨(look_slice rfl (by first | rfl | (simp; done) | omega | (simp; omega))), rfl, rfl, rfl, rfl, rfl, (look_slice rfl (by first | rfl | (simp; done) | omega | (simp; omega))), (look_slice rfl (by first | rfl | (simp; done) | omega | (simp; omega))), rfl, trivial⟩
          ·
            intro K29 hK29 jK393
            obtain ⟨x7, hbx7, hx7, F⟩ := ix_some F
            by_cases hp6 : x7.from_ = t2_1
            ·
              replace F := ite_y hp6 F
              have hq6 := dec_t hp6
              obtain ⟨x8, hbx8, hx8, F⟩ := ix_some F
              refine CW.region ?_
              refine LW.pure rfl rfl (RV.fieldAddr Tf24_3 rfl) ?_
              refine LW.pure rfl rfl (RV.load1 Tk22 rfl ((H.blk 3 rfl).cells.off 3) rfl) ?_
              refine LW.pure rfl rfl (RV.move rfl) ?_
              refine LW.pure rfl rfl (RV.indexAddr Ts22 rfl rfl hbx7 (h_a0_drains.addr_ hx7)) ?_
              refine LW.pure rfl rfl (RV.fieldAddr Tf52_0 rfl) ?_
              refine LW.pure rfl rfl (RV.load1 Tk3 rfl (((h_a0_drains.at_ hx7).ext R0).off 0) rfl) ?_
              refine LW.pure rfl rfl (RV.move rfl) ?_
              refine LW.pure rfl rfl (RV.nei rfl rfl) ?_
              refine LW.pure rfl rfl (RV.move rfl) ?_
              refine LW.pureYB rfl rfl rfl rfl (not_f hq6) (RV.move rfl) ?_
              refine LW.pureYB rfl rfl rfl rfl (not_f hq6) (RV.move rfl) ?_
              refine LW.pureYB rfl rfl rfl rfl (not_f hq6) (RV.indexAddr Ts30 rfl rfl hbx8 ((H.own 0 rfl).sl.addr_ hx8)) ?_
              refine LW.pureYB rfl rfl rfl rfl (not_f hq6) (RV.load1 Tk3 rfl ((H.own 0 rfl).sl.at_ hx8) rfl) ?_
              refine LW.pureYB rfl rfl rfl rfl (not_f hq6) (RV.eqi rfl rfl) ?_
              refine LW.pure rfl rfl (RV.pickFB rfl (not_f hq6) rfl) ?_
              refine LW.nil (jK393 _ _ ⟨_, ?_, ⟨(decide (x8 = 0)), F, rfl, H⟩⟩)
              exact ⟨(look_slice rfl (by first | rfl | (simp; done) | omega | (simp; omega))), rfl, rfl, rfl, rfl, rfl, (look_slice rfl (by first | rfl | (simp; done) | omega | (simp; omega))), (look_slice rfl (by first | rfl | (simp; done) | omega | (simp; omega))), rfl, rfl, trivial⟩
            ·
              replace F := ite_n hp6 F
              have hq6 := dec_f hp6
              refine CW.region ?_
              refine LW.pure rfl rfl (RV.fieldAddr Tf24_3 rfl) ?_
              refine LW.pure rfl rfl (RV.load1 Tk22 rfl ((H.blk 3 rfl).cells.off 3) rfl) ?_
              refine LW.pure rfl rfl (RV.move rfl) ?_
              refine LW.pure rfl rfl (RV.indexAddr Ts22 rfl rfl hbx7 (h_a0_drains.addr_ hx7)) ?_
              refine LW.pure rfl rfl (RV.fieldAddr Tf52_0 rfl) ?_
              refine LW.pure rfl rfl (RV.load1 Tk3 rfl (((h_a0_drains.at_ hx7).ext R0).off 0) rfl) ?_
              refine LW.pure rfl rfl (RV.move rfl) ?_
              refine LW.pure rfl rfl (RV.nei rfl rfl) ?_
              refine LW.pure rfl rfl (RV.move rfl) ?_
              refine LW.noB rfl rfl rfl rfl (ne_beq (v := true) (not_t hq6) rfl) ?_
              refine LW.noB rfl rfl rfl rfl (ne_beq (v := true) (not_t hq6) rfl) ?_
              refine LW.noB rfl rfl rfl rfl (ne_beq (v := true) (not_t hq6) rfl) ?_
              refine LW.noB rfl rfl rfl rfl (ne_beq (v := true) (not_t hq6) rfl) ?_
              refine LW.noB rfl rfl rfl rfl (ne_beq (v := true) (not_t hq6) rfl) ?_
              refine LW.pure rfl rfl (RV.pickTB rfl (not_t hq6) rfl) ?_
              refine LW.nil (jK393 _ _ ⟨_, ?_, ⟨true, F, rfl, H⟩⟩)
              exact ⟨(look_slice rfl (by first | rfl | (simp; done) | omega | (simp; omega))), rfl, rfl, rfl, rfl, rfl, (look_slice rfl (by first | rfl | (simp; done) | omega | (simp; omega))), (look_slice rfl (by first | rfl | (simp; done) | omega | (simp; omega))), rfl, rfl, trivial⟩
      ·
        replace F := ite_n hp3 F
        have hq3 : t29_1 = false := raw_f hp3
        refine CW.condF rfl hq3 ?_
        replace H := H.pickR (C := [.own A_a1 c_a1 3 1 (List.map encN a1), .own Al4 cl4 3 1 (List.map encN l4), .own Al5 cl5 3 1 (List.map encN l5), .blk b1 24 [.int .i64 a0.nodes, .int .i64 a0.from_, .int .i64 a0.to_, .slice A_a0_drains a0.drains.length c_a0_drains], .blk b2 79 [.slice none 0 0, .int .i64 0]]) (C' := [.own A_a1 c_a1 3 1 (List.map encN a1), .own Al5 cl5 3 1 (List.map encN l5), .blk b2 79 [.slice none 0 0, .int .i64 0]]) [0, 2, 4] (by decide) rfl
        replace R0 := H.ext
        refine CW.exit (jK325 _ _ ⟨_, ?_, ⟨a4, l5, 0, Al5, cl5, F, rfl, H, (Nat.zero_le _)⟩⟩)
        exact ⟨(look_slice rfl (by first | rfl | (simp; done) | omega | (simp; omega))), rfl, rfl, (look_cut0 rfl), trivial⟩
    ·
      intro K30 hK30 jK394
      by_cases hp7 : t2_1 = a3
      ·
        replace F := ite_y hp7 F
        have hq7 := dec_t hp7
        refine CW.region ?_
        refine LW.pure rfl rfl (RV.move rfl) ?_
        refine LW.pure rfl rfl (RV.move rfl) ?_
        refine LW.pure rfl rfl (RV.nei rfl rfl) ?_
        refine LW.pure rfl rfl (RV.move rfl) ?_
        refine LW.pureYB rfl rfl rfl rfl (not_f hq7) (RV.move rfl) ?_
        refine LW.pureYB rfl rfl rfl rfl (not_f hq7) (RV.len Ts30 rfl) ?_
        refine LW.pureYB rfl rfl rfl rfl (not_f hq7) (RV.eqi rfl rfl) ?_
        refine LW.pure rfl rfl (RV.pickFB rfl (not_f hq7) rfl) ?_
        refine LW.nil (jK394 _ _ ⟨_, ?_, ⟨(decide (((l5.length : Int)) = 0)), F, rfl, H⟩⟩)
        exact ⟨(look_slice rfl (by first | rfl | (simp; done) | omega | (simp; omega))), rfl, rfl, rfl, rfl, rfl, (look_slice rfl (by first | rfl | (simp; done) | omega | (simp; omega))), (look_slice rfl (by first | rfl | (simp; done) | omega | (simp; omega))), rfl, trivial⟩
      ·
        replace F := ite_n hp7 F
        have hq7 := dec_f hp7
        refine CW.region ?_
        refine LW.pure rfl rfl (RV.move rfl) ?_
        refine LW.pure rfl rfl (RV.move rfl) ?_
        refine LW.pure rfl rfl (RV.nei rfl rfl) ?_
        refine LW.pure rfl rfl (RV.move rfl) ?_
        refine LW.noB rfl rfl rfl rfl (ne_beq (v := true) (not_t hq7) rfl) ?_
        refine LW.noB rfl rfl rfl rfl (ne_beq (v := true) (not_t hq7) rfl) ?_
        refine LW.noB rfl rfl rfl rfl (ne_beq (v := true) (not_t hq7) rfl) ?_
        refine LW.pure rfl rfl (RV.pickTB rfl (not_t hq7) rfl) ?_
        refine LW.nil (jK394 _ _ ⟨_, ?_, ⟨true, F, rfl, H⟩⟩)
        exact ⟨(look_slice rfl (by first | rfl | (simp; done) | omega | (simp; omega))), rfl, rfl, rfl, rfl, rfl, (look_slice rfl (by first | rfl | (simp; done) | omega | (simp; omega))), (look_slice rfl (by first | rfl | (simp; done) | omega | (simp; omega))), rfl, trivial⟩
set_option maxRecDepth 20000 in
set_option maxHeartbeats 1000000 in
theorem slices_IndexFunc_int_ok {a0 : List Int} {a1 : Int → Option Bool} {A_a0 : Option Addr} {c_a0 : Nat} {f_a1 : Nat} {p_a1 : Array Value} {q_a1 : Array Value} {w : World} {res : Int} (h_a0 : Sl w A_a0 c_a0 1 (a0.map encN)) (h_a1 : ∀ (x2 : Int) (r : Bool), a1 x2 = some r → ∀ w1, Ext w w1 → CallsV Try.prog f_a1 p_a1 q_a1 #[.int .i64 x2] w1 (Rt w1 (.bool r))) (F : slices_IndexFunc_int a0 a1 = some res) : Calls Try.prog 88 #[.slice A_a0 a0.length c_a0, .func (.func f_a1) p_a1 q_a1] w (Rt w (.int .i64 res)) := by
  refine calls_of_cw (args := [.slice A_a0 a0.length c_a0, .func (.func f_a1) p_a1 q_a1]) Try.func88 rfl rfl rfl rfl ?_
  have H := Hp.start w
  have R0 := H.ext
  unfold slices_IndexFunc_int at F
  refine CW.seq fun K1 hK1 => ?_
  refine CW.region ?_
  refine LW.pure rfl rfl (RV.assign rfl) ?_
  refine LW.nil (hK1 _ _ ?_)
  refine CW.seqJ (fun ρ wl1 => (slices_IndexFunc_int_k1 = some res ∧ ρ = [(4, .int .i64 0)] ∧ Hp w wl1 [])) ?_ ?_
  ·
    rintro _ wl1 ⟨F, rfl, H⟩
    have R0 := H.ext
    unfold slices_IndexFunc_int_k1 at F
    refine CW.seq fun K2 hK2 => ?_
    refine CW.region ?_
    refine LW.pure rfl rfl (RV.assign rfl) ?_
    refine LW.nil (hK2 _ _ ?_)
    refine CW.ret ?_
    obtain rfl := Option.some.inj F
    refine ⟨_, (ResOK.one rfl), ?_⟩
    refine ⟨(by first | rfl | simp), R0⟩
  ·
    intro K3 hK3 jK63
    refine CW.seq fun K4 hK4 => ?_
    refine CW.region ?_
    refine LW.pure rfl rfl (RV.move rfl) ?_
    refine LW.pure rfl rfl (RV.len Ts30 rfl) ?_
    refine LW.pure rfl rfl (RV.move rfl) ?_
    refine LW.nil (hK4 _ _ ?_)
    refine CW.block ?_
    refine CW.loop (fun meas ρ wl2 => ∃ (t8_1 : Int), slices_IndexFunc_int_L1 a0 a1 meas t8_1 = some res ∧ ρ = [(0, .slice A_a0 a0.length c_a0), (1, .func (.func f_a1) p_a1 q_a1), (4, .int .i64 0), (7, .int .i64 ((a0.length : Int))), (8, .int .i64 t8_1)] ∧ Hp w wl2 []) FU ⟨_, ?_, ((0 : Int)), F, rfl, H⟩ ?_
    · exact ⟨rfl, rfl, rfl, rfl, rfl, trivial⟩
    rintro mk1 _ wl2 ⟨t8_1, F, rfl, H⟩
    have R0 := H.ext
    replace F := slices_IndexFunc_int_L1_s F
    obtain ⟨mk1, rfl, F⟩ := F
    generalize hrec1 : slices_IndexFunc_int_L1 a0 a1 mk1 = rec1 at F
    unfold slices_IndexFunc_int_B1 at F
    refine CW.seq fun K5 hK5 => ?_
    refine CW.region ?_
    refine LW.pure rfl rfl (RV.lss rfl rfl) ?_
    refine LW.nil (hK5 _ _ ?_)
    refine CW.seq fun K6 hK6 => ?_
    by_cases hp1 : t8_1 < ((a0.length : Int))
    ·
      replace F := ite_y hp1 F
      have hq1 := dec_t hp1
      refine CW.condT rfl hq1 ?_
      refine CW.skip (hK6 _ _ ?_)
      refine CW.seq fun K7 hK7 => ?_
      refine CW.block ?_
      refine CW.seq fun K8 hK8 => ?_
      refine CW.region ?_
      refine LW.pure rfl rfl (RV.move rfl) ?_
      refine LW.pure rfl rfl (RV.assign rfl) ?_
      refine LW.nil (hK8 _ _ ?_)
      refine CW.seq fun K9 hK9 => ?_
      obtain ⟨x1, hbx1, hx1, F⟩ := ix_some F
      obtain ⟨r1, hr1, F⟩ := bnd_some F
      refine CW.region ?_
      refine LW.pure rfl rfl (RV.move rfl) ?_
      refine LW.pure rfl rfl (RV.move rfl) ?_
      refine LW.pure rfl rfl (RV.move rfl) ?_
      refine LW.pure rfl rfl (RV.indexAddr Ts30 rfl rfl hbx1 (h_a0.addr_ hx1)) ?_
      refine LW.pure rfl rfl (RV.load1 Tk3 rfl ((h_a0.at_ hx1).ext R0) rfl) ?_
      refine LW.go rfl rfl (OW.callV2 rfl rfl rfl (h_a1 _ _ hr1 _ R0) ?_)
      rintro _ w2 ⟨rfl, E1⟩
      refine ⟨_, rfl, ?_⟩
      replace H := H.grow E1
      replace R0 := H.ext
      refine LW.nil (hK9 _ _ ?_)
      by_cases hp2 : r1 = true
      ·
        replace F := ite_y hp2 F
        have hq2 : r1 = true := hp2
        refine CW.condT rfl hq2 ?_
        refine CW.seq fun K10 hK10 => ?_
        refine CW.region ?_
        refine LW.pure rfl rfl (RV.move rfl) ?_
        refine LW.pure rfl rfl (RV.assign rfl) ?_
        refine LW.nil (hK10 _ _ ?_)
        refine CW.ret ?_
        obtain rfl := Option.some.inj F
        refine ⟨_, (ResOK.one rfl), ?_⟩
        refine ⟨(by first | rfl | simp), R0⟩
      ·
        replace F := ite_n hp2 F
        have hq2 : r1 = false := raw_f hp2
        refine CW.condF rfl hq2 ?_
        refine CW.skip (hK7 _ _ ?_)
        obtain ⟨hg1, F⟩ := gd_some F
        refine CW.region ?_
        refine LW.pure rfl rfl (RV.add rfl rfl hg1) ?_
        refine LW.pure rfl rfl (RV.move rfl) ?_
        refine LW.nil ?_
        subst hrec1
        refine ⟨mk1, Nat.lt_succ_self _, _, ?_, (t8_1 + 1), F, rfl, H⟩
        exact ⟨rfl, rfl, rfl, rfl, rfl, trivial⟩
    ·
      replace F := ite_n hp1 F
      have hq1 := dec_f hp1
      refine CW.condF rfl hq1 ?_
      refine CW.exit (jK63 _ _ ⟨_, ?_, ⟨F, rfl, H⟩⟩)
      exact ⟨rfl, trivial⟩
set_option maxRecDepth 20000 in
set_option maxHeartbeats 1000000 in
theorem drain_Split_1_ok {a0 : Int} {w : World} {res : Bool} (F : drain_Split_1 a0 = some res) : Calls Try.prog 89 #[.int .i64 a0] w (Rt w (.bool res)) := by
  refine calls_of_cw (args := [.int .i64 a0]) Try.func89 rfl rfl rfl rfl ?_
  have H := Hp.start w
  have R0 := H.ext
  unfold drain_Split_1 at F
  refine CW.seq fun K1 hK1 => ?_
  refine CW.region ?_
  refine LW.pure rfl rfl (RV.assign rfl) ?_
  refine LW.nil (hK1 _ _ ?_)
  refine CW.seq fun K2 hK2 => ?_
  refine CW.region ?_
  refine LW.pure rfl rfl (RV.move rfl) ?_
  refine LW.pure rfl rfl (RV.gtr rfl rfl) ?_
  refine LW.pure rfl rfl (RV.assign rfl) ?_
  refine LW.nil (hK2 _ _ ?_)
  refine CW.ret ?_
  obtain rfl := Option.some.inj F
  refine ⟨_, (ResOK.one rfl), ?_⟩
  refine ⟨(by first | rfl | simp), R0⟩
set_option maxRecDepth 20000 in
set_option maxHeartbeats 1000000 in
theorem drain_Split_ok {a0 : Net} {a1 : List Int} {A_a0_drains : Option Addr} {c_a0_drains : Nat} {A_a1 : Option Addr} {c_a1 : Nat} {w : World} {res : (List Trail) × Int} (h_a0_drains : Sl w A_a0_drains c_a0_drains 3 (a0.drains.map encDrain)) (h_a1 : Sl w A_a1 c_a1 1 (a1.map encN)) (F : drain_Split a0 a1 = some res) : Calls Try.prog 53 #[.agg #[.int .i64 a0.nodes, .int .i64 a0.from_, .int .i64 a0.to_, .slice A_a0_drains a0.drains.length c_a0_drains], .slice A_a1 a1.length c_a1] w (fun e w' => ∃ (A1 : Option Addr) (c1 : Nat) (hs0 : List (Option Addr × Nat)), e = .returned (.tuple #[.slice A1 res.1.length c1, .int .i64 res.2]) ∧ Hp w w' [.inv (tbxB A1 hs0) (TbxH A1 c1 79 2 encTrail (fun x => x.drains) 3 1 encN hs0 res.1)]) := by
  refine calls_of_cw (args := [.agg #[.int .i64 a0.nodes, .int .i64 a0.from_, .int .i64 a0.to_, .slice A_a0_drains a0.drains.length c_a0_drains], .slice A_a1 a1.length c_a1]) Try.func53 rfl rfl rfl rfl ?_
  have H := Hp.start w
  have R0 := H.ext
  unfold drain_Split at F
  refine CW.seq fun K1 hK1 => ?_
  refine CW.region ?_
  refine LW.go rfl rfl (OW.box rfl fun b1 w1 N1 => ?_)
  replace H := H.new N1 N1.blk
  replace R0 := H.ext
  refine LW.pure rfl rfl (RV.assign rfl) ?_
  refine LW.pure rfl rfl (RV.assign rfl) ?_
  refine LW.nil (hK1 _ _ ?_)
  refine CW.seq fun K2 hK2 => ?_
  obtain ⟨r5, hr5, F⟩ := bnd_some F
  refine CW.region ?_
  refine LW.pure rfl rfl (RV.loadA [.int .i64 a0.nodes, .int .i64 a0.from_, .int .i64 a0.to_, .slice A_a0_drains a0.drains.length c_a0_drains] Tk24 rfl (H.blk 0 rfl).cells rfl rfl) ?_
  refine LW.pure rfl rfl (RV.move rfl) ?_
  refine LW.go rfl rfl (OW.call Tc25 rfl (drain_CheckFlow_ok (a0 := a0) (a1 := a1) (h_a0_drains.ext R0) (h_a1.ext R0) hr5) ?_)
  rintro _ w2 ⟨rfl, E1⟩
  refine ⟨_, rfl, ?_⟩
  replace H := H.grow E1
  replace R0 := H.ext
  refine LW.pure rfl rfl (RV.move rfl) ?_
  refine LW.pure rfl rfl (RV.extract rfl rfl) ?_
  refine LW.pure rfl rfl (RV.extract rfl rfl) ?_
  refine LW.pure rfl rfl (RV.assign rfl) ?_
  refine LW.pure rfl rfl (RV.assign rfl) ?_
  refine LW.nil (hK2 _ _ ?_)
  refine CW.seq fun K3 hK3 => ?_
  refine CW.seq fun K4 hK4 => ?_
  refine CW.region ?_
  refine LW.pure rfl rfl (RV.move rfl) ?_
  refine LW.pure rfl rfl (RV.nei rfl rfl) ?_
  refine LW.nil (hK4 _ _ ?_)
  by_cases hp1 : r5.2 = 0
  ·
    replace F := ite_y hp1 F
    have hq1 := dec_t hp1
    refine CW.condF rfl (not_f hq1) ?_
    refine CW.skip (hK3 _ _ ?_)
    refine CW.seq fun K5 hK5 => ?_
    refine CW.seq fun K6 hK6 => ?_
    refine CW.region ?_
    refine LW.pure rfl rfl (RV.move rfl) ?_
    refine LW.pure rfl rfl (RV.lss rfl rfl) ?_
    refine LW.nil (hK6 _ _ ?_)
    by_cases hp2 : r5.1 < 0
    ·
      replace F := ite_y hp2 F
      have hq2 := dec_t hp2
      refine CW.condT rfl hq2 ?_
      refine CW.seq fun K7 hK7 => ?_
      refine CW.region ?_
      refine LW.pure rfl rfl (RV.assign rfl) ?_
      refine LW.pure rfl rfl (RV.assign rfl) ?_
      refine LW.nil (hK7 _ _ ?_)
      refine CW.ret ?_
      obtain rfl := Option.some.inj F
      refine ⟨_, (ResOK.two rfl rfl), ?_⟩
      replace H := H.nilTbx encTrail (fun x => x.drains) encN 79 2 3 1
      replace R0 := H.ext
      replace H := H.pick (L' := [.inv (tbxB none ([])) (TbxH none 0 79 2 encTrail (fun x => x.drains) 3 1 encN ([]) (([] : List Trail)))]) [0] (by decide) rfl
      replace R0 := H.ext
      exact ⟨none, 0, ([]), (by first | rfl | (simp; done) | (simp; omega)), H⟩
    ·
      replace F := ite_n hp2 F
      have hq2 := dec_f hp2
      refine CW.condF rfl hq2 ?_
      refine CW.skip (hK5 _ _ ?_)
      refine CW.seq fun K8 hK8 => ?_
      obtain ⟨r6, hr6, F⟩ := bnd_some F
      refine CW.region ?_
      refine LW.pure rfl rfl (RV.move rfl) ?_
      refine LW.go rfl rfl (OW.call Tc86 rfl (slices_Clone_int_ok (a0 := a1) (h_a1.ext R0) hr6) ?_)
      rintro _ w3 ⟨A24_0, c24_0, rfl, E2⟩
      refine ⟨_, rfl, ?_⟩
      replace H : Hp w w3 [.own A24_0 c24_0 3 1 (List.map encN r6), .blk b1 24 [.int .i64 a0.nodes, .int .i64 a0.from_, .int .i64 a0.to_, .slice A_a0_drains a0.drains.length c_a0_drains]] := H.append E2
      replace R0 := H.ext
      refine LW.pure rfl rfl (RV.assign rfl) ?_
      refine LW.nil (hK8 _ _ ?_)
      refine CW.seq fun K9 hK9 => ?_
      refine CW.region ?_
      refine LW.pure rfl rfl (RV.assign rfl) ?_
      refine LW.nil (hK9 _ _ ?_)
      refine CW.seqJ (fun ρ wl1 => (∃ (l2 : List Int) (m2 : List Trail) (hsm2 : List (Option Addr × Nat)) (Am2 : Option Addr) (cm2 : Nat), drain_Split_k1 a0 l2 m2 = some res ∧ ρ = [(2, .pointer (some (⟨b1, 0, none⟩))), (4, .slice none 0 0), (5, .int .i64 0), (8, .slice A24_0 l2.length c24_0), (9, .slice Am2 m2.length cm2)] ∧ Hp w wl1 [.own A24_0 c24_0 3 1 (List.map encN l2), .inv (tbxB Am2 hsm2) (TbxH Am2 cm2 79 2 encTrail (fun x => x.drains) 3 1 encN hsm2 m2), .blk b1 24 [.int .i64 a0.nodes, .int .i64 a0.from_, .int .i64 a0.to_, .slice A_a0_drains a0.drains.length c_a0_drains]])) ?_ ?_
      ·
        rintro _ wl1 ⟨l2, m2, hsm2, Am2, cm2, F, rfl, H⟩
        have R0 := H.ext
        unfold drain_Split_k1 at F
        refine CW.block ?_
        refine CW.loop (fun meas ρ wl2 => ∃ (l1 : List Int) (m1 : List Trail) (hsm1 : List (Option Addr × Nat)) (Am1 : Option Addr) (cm1 : Nat), drain_Split_L1 a0 meas l1 m1 = some res ∧ ρ = [(2, .pointer (some (⟨b1, 0, none⟩))), (4, .slice none 0 0), (5, .int .i64 0), (8, .slice A24_0 l1.length c24_0), (9, .slice Am1 m1.length cm1)] ∧ Hp w wl2 [.own A24_0 c24_0 3 1 (List.map encN l1), .inv (tbxB Am1 hsm1) (TbxH Am1 cm1 79 2 encTrail (fun x => x.drains) 3 1 encN hsm1 m1), .blk b1 24 [.int .i64 a0.nodes, .int .i64 a0.from_, .int .i64 a0.to_, .slice A_a0_drains a0.drains.length c_a0_drains]]) FU ⟨_, ?_, l2, m2, hsm2, Am2, cm2, F, rfl, H⟩ ?_
        · exact ⟨rfl, rfl, rfl, (look_slice rfl (by first | rfl | (simp; done) | omega | (simp; omega))), (look_slice rfl (by first | rfl | (simp; done) | omega | (simp; omega))), trivial⟩
        rintro mk1 _ wl2 ⟨l1, m1, hsm1, Am1, cm1, F, rfl, H⟩
        have R0 := H.ext
        replace F := drain_Split_L1_s F
        obtain ⟨mk1, rfl, F⟩ := F
        generalize hrec1 : drain_Split_L1 a0 mk1 = rec1 at F
        unfold drain_Split_B1 at F
        refine CW.block ?_
        refine CW.seq fun K10 hK10 => ?_
        obtain ⟨r1, hr1, F⟩ := bnd_some F
        refine CW.region ?_
        refine LW.pure rfl rfl (RV.move rfl) ?_
        refine LW.go rfl rfl (OW.call Tc88 rfl (slices_IndexFunc_int_ok (a0 := l1) (a1 := drain_Split_1) (H.own 0 rfl).sl (fun x2 r hF w4 hE => CallsV.of Tc89 (drain_Split_1_ok (a0 := x2) hF)) hr1) ?_)
        rintro _ w5 ⟨rfl, E3⟩
        refine ⟨_, rfl, ?_⟩
        replace H := H.grow E3
        replace R0 := H.ext
        refine LW.pure rfl rfl (RV.assign rfl) ?_
        refine LW.nil (hK10 _ _ ?_)
        refine CW.seq fun K11 hK11 => ?_
        refine CW.seq fun K12 hK12 => ?_
        refine CW.region ?_
        refine LW.pure rfl rfl (RV.move rfl) ?_
        refine LW.pure rfl rfl (RV.lss rfl rfl) ?_
        refine LW.nil (hK12 _ _ ?_)
        by_cases hp3 : r1 < 0
        ·
          replace F := ite_y hp3 F
          have hq3 := dec_t hp3
          refine CW.condT rfl hq3 ?_
          refine CW.seq fun K13 hK13 => ?_
          refine CW.region ?_
          refine LW.pure rfl rfl (RV.move rfl) ?_
          refine LW.pure rfl rfl (RV.assign rfl) ?_
          refine LW.pure rfl rfl (RV.assign rfl) ?_
          refine LW.nil (hK13 _ _ ?_)
          refine CW.ret ?_
          obtain rfl := Option.some.inj F
          refine ⟨_, (ResOK.two rfl rfl), ?_⟩
          replace H := H.pick (L' := [.inv (tbxB Am1 hsm1) (TbxH Am1 cm1 79 2 encTrail (fun x => x.drains) 3 1 encN hsm1 m1)]) [1] (by decide) rfl
          replace R0 := H.ext
          exact ⟨Am1, cm1, hsm1, (by first | rfl | (simp; done) | (simp; omega)), H⟩
        ·
          replace F := ite_n hp3 F
          have hq3 := dec_f hp3
          refine CW.condF rfl hq3 ?_
          refine CW.skip (hK11 _ _ ?_)
          obtain ⟨x1, hbx1, hx1, F⟩ := ix_some F
          obtain ⟨r2, hr2, F⟩ := bnd_some F
          obtain ⟨hg1, F⟩ := gd_some F
          have H0 := H
          have hz : w5.heap.size ≤ w5.heap.size := Nat.le_refl _
          refine CW.draw [9, 11] (XB w5 [.own A24_0 c24_0 3 1 (List.map encN l1), .inv (tbxB Am1 hsm1) (TbxH Am1 cm1 79 2 encTrail (fun x => x.drains) 3 1 encN hsm1 m1), .blk b1 24 [.int .i64 a0.nodes, .int .i64 a0.from_, .int .i64 a0.to_, .slice A_a0_drains a0.drains.length c_a0_drains]] [0, 1]) (.cons 0 2 (.cons 1 2 (.cons 2 2 (.cons 3 2 (.cons 4 2 (.cons 5 2 (.cons 6 2 (.cons 7 2 (.cons 8 2 (.cons 9 0 (.cons 10 0 (.cons 11 0 (.cons 12 2 .nil))))))))))))) mixed (by kernel_rfl) fun w6 E4 => ?_
          replace H := H.grow E4
          replace R0 := H.ext
          replace hz := Nat.le_trans hz (Ext.size E4)
          refine DW.thru rfl rfl rfl (fun _ EQ => RV.move rfl) ?_
          refine DW.thru rfl rfl rfl (fun _ EQ => RV.loadA [.int .i64 a0.nodes, .int .i64 a0.from_, .int .i64 a0.to_, .slice A_a0_drains a0.drains.length c_a0_drains] Tk24 rfl (H.thruB 2 rfl EQ (H0.notX [0, 1] 2 rfl (by decide))).cells rfl rfl) ?_
          refine DW.thru rfl rfl rfl (fun _ EQ => RV.move rfl) ?_
          refine DW.thru rfl rfl rfl (fun _ EQ => RV.fieldAddr Tf24_3 rfl) ?_
          refine DW.thru rfl rfl rfl (fun _ EQ => RV.load1 Tk22 rfl ((H.thruB 2 rfl EQ (H0.notX [0, 1] 2 rfl (by decide))).cells.off 3) rfl) ?_
          refine DW.thru rfl rfl rfl (fun _ EQ => RV.move rfl) ?_
          refine DW.thru rfl rfl rfl (fun _ EQ => RV.indexAddr Ts22 rfl rfl hbx1 (h_a0_drains.addr_ hx1)) ?_
          refine DW.thru rfl rfl rfl (fun _ EQ => RV.fieldAddr Tf52_0 rfl) ?_
          refine DW.thru rfl rfl rfl (fun _ EQ => RV.load1 Tk3 rfl ((H0.old EQ R0 (h_a0_drains.at_ hx1)).off 0) rfl) ?_
          replace H := H.pick (L' := [.own A24_0 c24_0 3 1 (List.map encN l1), .inv (tbxB Am1 hsm1) (TbxH Am1 cm1 79 2 encTrail (fun x => x.drains) 3 1 encN hsm1 m1), .blk b1 24 [.int .i64 a0.nodes, .int .i64 a0.from_, .int .i64 a0.to_, .slice A_a0_drains a0.drains.length c_a0_drains]]) [0, 1, 2] (by decide) rfl
          replace R0 := H.ext
          obtain ⟨Ex1, HE1, Hz1⟩ := Hp.freeze (a := .own A24_0 c24_0 3 1 (List.map encN l1)) (L := [.inv (tbxB Am1 hsm1) (TbxH Am1 cm1 79 2 encTrail (fun x => x.drains) 3 1 encN hsm1 m1), .blk b1 24 [.int .i64 a0.nodes, .int .i64 a0.from_, .int .i64 a0.to_, .slice A_a0_drains a0.drains.length c_a0_drains]]) H
          refine DW.sole rfl rfl rfl (OW.call Tc87 rfl (drain_trail_ok (a0 := a0) (a1 := l1) (a2 := x1.from_) (a3 := (-1 : Int)) (a4 := (0 : Int)) (R := Ex1) h_a0_drains HE1 hr2) ?_)
          rintro _ w7 ⟨A39_0_drains, c39_0_drains, rfl, hlm39_a1, Hq1⟩
          obtain ⟨Hq1, hz1s, hz1k⟩ := Hz1 w7 (.own A24_0 c24_0 3 1 (List.map encN r2.2)) [.own A39_0_drains c39_0_drains 3 1 (List.map encN r2.1.drains)] rfl Hq1
          refine ⟨_, rfl, fun h => absurd h (by decide), ModX.frz hz1s hz1k (XB.own_ 0 (by decide) rfl), ?_⟩
          replace H : Hp w w7 [.own A24_0 c24_0 3 1 (List.map encN r2.2), .own A39_0_drains c39_0_drains 3 1 (List.map encN r2.1.drains), .inv (tbxB Am1 hsm1) (TbxH Am1 cm1 79 2 encTrail (fun x => x.drains) 3 1 encN hsm1 m1), .blk b1 24 [.int .i64 a0.nodes, .int .i64 a0.from_, .int .i64 a0.to_, .slice A_a0_drains a0.drains.length c_a0_drains]] := Hq1
          replace R0 := H.ext
          replace hz := Nat.le_trans hz hz1s
          refine DW.sole rfl rfl rfl (OW.buildSlice (e := 79) (vs := [.agg #[.slice A39_0_drains r2.1.drains.length c39_0_drains, .int .i64 r2.1.amount]]) (cs := [.slice A39_0_drains r2.1.drains.length c39_0_drains, .int .i64 r2.1.amount]) rfl (fun _ => by kernel_rfl) fun b2 w8 N2 => ?_)
          refine ⟨fun _ => N2.ext, ModX.ext N2.ext, ?_⟩
          have G0_b2 : w5.heap.size ≤ b2 := by rw [N2.at_]; exact hz
          replace H := H.made' (k := 2) (t := 79) (enc := encTrail) (l := ([((A39_0_drains, c39_0_drains), r2.1)] : List ((Option Addr × Nat) × Trail))) N2 (by have q := N2.blk; simp only [List.flatMap_cons, List.flatMap_nil, encTrail, List.append_nil, List.cons_append, List.nil_append]; first | done | exact q) (fun _ => rfl) rfl (by first | decide | omega | (simp; done) | (simp; omega))
          replace R0 := H.ext
          replace hz := Nat.le_trans hz (Ext.size N2.ext)
          refine DW.sole rfl rfl rfl (OW.appendX (l := m1) (el := r2.1) (B := A39_0_drains) (q := c39_0_drains) Ts45 rfl rfl (H.tbx 3 rfl) (H.own 0 rfl).sl (fun _ => rfl) rfl (by decide) hg1 (by decide) fun A2 c2 w9 O1 M1 D1 => ?_)
          refine ⟨fun h => absurd h (by decide), M1.modx (XB.tbxO 1 (by decide) rfl), ?_⟩
          replace H : Hp w w9 [.own (some ⟨b2, 0, none⟩) ((([((A39_0_drains, c39_0_drains), r2.1)] : List ((Option Addr × Nat) × Trail))).length) 79 2 (List.map encTrail (([((A39_0_drains, c39_0_drains), r2.1)] : List ((Option Addr × Nat) × Trail)))), .own A24_0 c24_0 3 1 (List.map encN r2.2), .inv (tbxB A2 ((hsm1 ++ [(A39_0_drains, c39_0_drains)]))) (TbxH A2 c2 79 2 encTrail (fun x => x.drains) 3 1 encN ((hsm1 ++ [(A39_0_drains, c39_0_drains)])) ((m1 ++ [r2.1]))), .blk b1 24 [.int .i64 a0.nodes, .int .i64 a0.from_, .int .i64 a0.to_, .slice A_a0_drains a0.drains.length c_a0_drains]] := H.tbxPush (x := r2.1) 3 2 (by decide) rfl rfl M1 D1 O1
          replace R0 := H.ext
          replace hz := Nat.le_trans hz M1.size
          refine DW.thru rfl rfl rfl (fun _ EQ => RV.assign rfl) ?_
          refine DW.nil ?_
          replace H := H.pick (L' := [.own A24_0 c24_0 3 1 (List.map encN r2.2), .inv (tbxB A2 ((hsm1 ++ [(A39_0_drains, c39_0_drains)]))) (TbxH A2 c2 79 2 encTrail (fun x => x.drains) 3 1 encN ((hsm1 ++ [(A39_0_drains, c39_0_drains)])) ((m1 ++ [r2.1]))), .blk b1 24 [.int .i64 a0.nodes, .int .i64 a0.from_, .int .i64 a0.to_, .slice A_a0_drains a0.drains.length c_a0_drains]]) [1, 2, 3] (by decide) rfl
          replace R0 := H.ext
          subst hrec1
          refine ⟨mk1, Nat.lt_succ_self _, _, ?_, r2.2, ((m1 ++ [r2.1])), ((hsm1 ++ [(A39_0_drains, c39_0_drains)])), A2, c2, F, rfl, H⟩
          exact ⟨rfl, rfl, rfl, (look_slice rfl (by first | rfl | (simp; done) | omega | (simp; omega))), (look_slice rfl (by first | rfl | (simp; done) | omega | (simp; omega))), trivial⟩
      ·
        intro K14 hK14 jK81
        refine CW.block ?_
        replace H := H.nilTbx encTrail (fun x => x.drains) encN 79 2 3 1
        replace R0 := H.ext
        replace H := H.pick (L' := [.own A24_0 c24_0 3 1 (List.map encN r6), .inv (tbxB none ([])) (TbxH none 0 79 2 encTrail (fun x => x.drains) 3 1 encN ([]) (([] : List Trail))), .blk b1 24 [.int .i64 a0.nodes, .int .i64 a0.from_, .int .i64 a0.to_, .slice A_a0_drains a0.drains.length c_a0_drains]]) [1, 0, 2] (by decide) rfl
        replace R0 := H.ext
        refine CW.loop (fun meas ρ wl3 => ∃ (t6_1 : Int) (l3 : List Int) (m3 : List Trail) (hsm3 : List (Option Addr × Nat)) (Am3 : Option Addr) (cm3 : Nat), drain_Split_L2 a0 meas t6_1 l3 m3 = some res ∧ ρ = [(2, .pointer (some (⟨b1, 0, none⟩))), (4, .slice none 0 0), (5, .int .i64 0), (6, .int .i64 t6_1), (8, .slice A24_0 l3.length c24_0), (9, .slice Am3 m3.length cm3)] ∧ Hp w wl3 [.own A24_0 c24_0 3 1 (List.map encN l3), .inv (tbxB Am3 hsm3) (TbxH Am3 cm3 79 2 encTrail (fun x => x.drains) 3 1 encN hsm3 m3), .blk b1 24 [.int .i64 a0.nodes, .int .i64 a0.from_, .int .i64 a0.to_, .slice A_a0_drains a0.drains.length c_a0_drains]]) FU ⟨_, ?_, r5.1, r6, (([] : List Trail)), ([]), none, 0, F, rfl, H⟩ ?_
        · exact ⟨rfl, rfl, rfl, rfl, (look_slice rfl (by first | rfl | (simp; done) | omega | (simp; omega))), (look_slice rfl (by first | rfl | (simp; done) | omega | (simp; omega))), trivial⟩
        rintro mk2 _ wl3 ⟨t6_1, l3, m3, hsm3, Am3, cm3, F, rfl, H⟩
        have R0 := H.ext
        replace F := drain_Split_L2_s F
        obtain ⟨mk2, rfl, F⟩ := F
        generalize hrec2 : drain_Split_L2 a0 mk2 = rec2 at F
        unfold drain_Split_B2 at F
        refine CW.seq fun K15 hK15 => ?_
        refine CW.seq fun K16 hK16 => ?_
        refine CW.region ?_
        refine LW.pure rfl rfl (RV.move rfl) ?_
        refine LW.pure rfl rfl (RV.gtr rfl rfl) ?_
        refine LW.nil (hK16 _ _ ?_)
        by_cases hp4 : (0 : Int) < t6_1
        ·
          replace F := ite_y hp4 F
          have hq4 := dec_t hp4
          refine CW.condT rfl hq4 ?_
          refine CW.skip (hK15 _ _ ?_)
          refine CW.block ?_
          refine CW.seq fun K17 hK17 => ?_
          obtain ⟨r3, hr3, F⟩ := bnd_some F
          refine CW.region ?_
          refine LW.pure rfl rfl (RV.loadA [.int .i64 a0.nodes, .int .i64 a0.from_, .int .i64 a0.to_, .slice A_a0_drains a0.drains.length c_a0_drains] Tk24 rfl (H.blk 2 rfl).cells rfl rfl) ?_
          refine LW.pure rfl rfl (RV.move rfl) ?_
          refine LW.pure rfl rfl (RV.fieldAddr Tf24_1 rfl) ?_
          refine LW.pure rfl rfl (RV.load1 Tk3 rfl ((H.blk 2 rfl).cells.off 1) rfl) ?_
          refine LW.pure rfl rfl (RV.fieldAddr Tf24_2 rfl) ?_
          refine LW.pure rfl rfl (RV.load1 Tk3 rfl ((H.blk 2 rfl).cells.off 2) rfl) ?_
          refine LW.pure rfl rfl (RV.move rfl) ?_
          replace H := H.pick (L' := [.own A24_0 c24_0 3 1 (List.map encN l3), .inv (tbxB Am3 hsm3) (TbxH Am3 cm3 79 2 encTrail (fun x => x.drains) 3 1 encN hsm3 m3), .blk b1 24 [.int .i64 a0.nodes, .int .i64 a0.from_, .int .i64 a0.to_, .slice A_a0_drains a0.drains.length c_a0_drains]]) [0, 1, 2] (by decide) rfl
          replace R0 := H.ext
          refine LW.go rfl rfl (OW.call Tc87 rfl (drain_trail_ok (a0 := a0) (a1 := l3) (a2 := a0.from_) (a3 := a0.to_) (a4 := t6_1) (R := [.inv (tbxB Am3 hsm3) (TbxH Am3 cm3 79 2 encTrail (fun x => x.drains) 3 1 encN hsm3 m3), .blk b1 24 [.int .i64 a0.nodes, .int .i64 a0.from_, .int .i64 a0.to_, .slice A_a0_drains a0.drains.length c_a0_drains]]) h_a0_drains H hr3) ?_)
          rintro _ w10 ⟨A45_0_drains, c45_0_drains, rfl, hlm45_a1, Hq2⟩
          refine ⟨_, rfl, ?_⟩
          replace H : Hp w w10 [.own A24_0 c24_0 3 1 (List.map encN r3.2), .own A45_0_drains c45_0_drains 3 1 (List.map encN r3.1.drains), .inv (tbxB Am3 hsm3) (TbxH Am3 cm3 79 2 encTrail (fun x => x.drains) 3 1 encN hsm3 m3), .blk b1 24 [.int .i64 a0.nodes, .int .i64 a0.from_, .int .i64 a0.to_, .slice A_a0_drains a0.drains.length c_a0_drains]] := Hq2
          replace R0 := H.ext
          refine LW.go rfl rfl (OW.alloc Tz79 fun b3 w11 N3 => ?_)
          replace H := H.new N3 N3.blk
          replace R0 := H.ext
          refine LW.go rfl rfl (OW.store Tk79 rfl rfl (H.blk 0 rfl) (off := 0) (vs := [.slice A45_0_drains r3.1.drains.length c45_0_drains, .int .i64 r3.1.amount]) rfl rfl rfl rfl rfl fun w12 S1 => ?_)
          replace H : Hp w w12 [.blk b3 79 [.slice A45_0_drains r3.1.drains.length c45_0_drains, .int .i64 r3.1.amount], .own A24_0 c24_0 3 1 (List.map encN r3.2), .own A45_0_drains c45_0_drains 3 1 (List.map encN r3.1.drains), .inv (tbxB Am3 hsm3) (TbxH Am3 cm3 79 2 encTrail (fun x => x.drains) 3 1 encN hsm3 m3), .blk b1 24 [.int .i64 a0.nodes, .int .i64 a0.from_, .int .i64 a0.to_, .slice A_a0_drains a0.drains.length c_a0_drains]] := H.stored 0 rfl S1
          replace R0 := H.ext
          refine LW.nil (hK17 _ _ ?_)
          refine CW.seq fun K18 hK18 => ?_
          obtain ⟨hg2, F⟩ := gd_some F
          refine CW.region ?_
          refine LW.pure rfl rfl (RV.move rfl) ?_
          refine LW.pure rfl rfl (RV.loadA [.slice A45_0_drains r3.1.drains.length c45_0_drains, .int .i64 r3.1.amount] Tk79 rfl (H.blk 0 rfl).cells rfl rfl) ?_
          refine LW.go rfl rfl (OW.buildSlice (e := 79) (vs := [.agg #[.slice A45_0_drains r3.1.drains.length c45_0_drains, .int .i64 r3.1.amount]]) (cs := [.slice A45_0_drains r3.1.drains.length c45_0_drains, .int .i64 r3.1.amount]) rfl (fun _ => by kernel_rfl) fun b4 w13 N4 => ?_)
          replace H := H.made' (k := 2) (t := 79) (enc := encTrail) (l := ([((A45_0_drains, c45_0_drains), r3.1)] : List ((Option Addr × Nat) × Trail))) N4 (by have q := N4.blk; simp only [List.flatMap_cons, List.flatMap_nil, encTrail, List.append_nil, List.cons_append, List.nil_append]; first | done | exact q) (fun _ => rfl) rfl (by first | decide | omega | (simp; done) | (simp; omega))
          replace R0 := H.ext
          refine LW.go rfl rfl (OW.appendX (l := m3) (el := r3.1) (B := A45_0_drains) (q := c45_0_drains) Ts45 rfl rfl (H.tbx 4 rfl) (H.own 0 rfl).sl (fun _ => rfl) rfl (by decide) hg2 (by decide) fun A3 c3 w14 O2 M2 D2 => ?_)
          replace H : Hp w w14 [.own (some ⟨b4, 0, none⟩) ((([((A45_0_drains, c45_0_drains), r3.1)] : List ((Option Addr × Nat) × Trail))).length) 79 2 (List.map encTrail (([((A45_0_drains, c45_0_drains), r3.1)] : List ((Option Addr × Nat) × Trail)))), .blk b3 79 [.slice A45_0_drains r3.1.drains.length c45_0_drains, .int .i64 r3.1.amount], .own A24_0 c24_0 3 1 (List.map encN r3.2), .inv (tbxB A3 ((hsm3 ++ [(A45_0_drains, c45_0_drains)]))) (TbxH A3 c3 79 2 encTrail (fun x => x.drains) 3 1 encN ((hsm3 ++ [(A45_0_drains, c45_0_drains)])) ((m3 ++ [r3.1]))), .blk b1 24 [.int .i64 a0.nodes, .int .i64 a0.from_, .int .i64 a0.to_, .slice A_a0_drains a0.drains.length c_a0_drains]] := H.tbxPush (x := r3.1) 4 3 (by decide) rfl rfl M2 D2 O2
          replace R0 := H.ext
          refine LW.pure rfl rfl (RV.assign rfl) ?_
          refine LW.nil (hK18 _ _ ?_)
          obtain ⟨r4, hr4, F⟩ := bnd_some F
          refine CW.region ?_
          refine LW.pure rfl rfl (RV.loadA [.int .i64 a0.nodes, .int .i64 a0.from_, .int .i64 a0.to_, .slice A_a0_drains a0.drains.length c_a0_drains] Tk24 rfl (H.blk 4 rfl).cells rfl rfl) ?_
          refine LW.pure rfl rfl (RV.move rfl) ?_
          refine LW.pure rfl rfl (RV.fieldAddr Tf24_1 rfl) ?_
          refine LW.pure rfl rfl (RV.load1 Tk3 rfl ((H.blk 4 rfl).cells.off 1) rfl) ?_
          refine LW.go rfl rfl (OW.call Tc63 (evs_cast rfl (by first | rfl | (simp; done) | (simp; omega))) (drain_value_ok (a0 := a0) (a1 := r3.2) (a2 := a0.from_) (h_a0_drains.ext R0) (H.own 2 rfl).sl hr4) ?_)
          rintro _ w15 ⟨rfl, E5⟩
          refine ⟨_, rfl, ?_⟩
          replace H := H.grow E5
          replace R0 := H.ext
          refine LW.pure rfl rfl (RV.assign rfl) ?_
          refine LW.nil ?_
          replace H := H.pick (L' := [.own A24_0 c24_0 3 1 (List.map encN r3.2), .inv (tbxB A3 ((hsm3 ++ [(A45_0_drains, c45_0_drains)]))) (TbxH A3 c3 79 2 encTrail (fun x => x.drains) 3 1 encN ((hsm3 ++ [(A45_0_drains, c45_0_drains)])) ((m3 ++ [r3.1]))), .blk b1 24 [.int .i64 a0.nodes, .int .i64 a0.from_, .int .i64 a0.to_, .slice A_a0_drains a0.drains.length c_a0_drains]]) [2, 3, 4] (by decide) rfl
          replace R0 := H.ext
          subst hrec2
          refine ⟨mk2, Nat.lt_succ_self _, _, ?_, r4, r3.2, ((m3 ++ [r3.1])), ((hsm3 ++ [(A45_0_drains, c45_0_drains)])), A3, c3, F, rfl, H⟩
          exact ⟨rfl, rfl, rfl, rfl, (look_slice rfl (by first | rfl | (simp; done) | omega | (simp; omega))), (look_slice rfl (by first | rfl | (simp; done) | omega | (simp; omega))), trivial⟩
        ·
          replace F := ite_n hp4 F
          have hq4 := dec_f hp4
          refine CW.condF rfl hq4 ?_
          refine CW.exit (jK81 _ _ ⟨_, ?_, ⟨l3, m3, hsm3, Am3, cm3, F, rfl, H⟩⟩)
          exact ⟨rfl, rfl, rfl, (look_slice rfl (by first | rfl | (simp; done) | omega | (simp; omega))), (look_slice rfl (by first | rfl | (simp; done) | omega | (simp; omega))), trivial⟩
  ·
    replace F := ite_n hp1 F
    have hq1 := dec_f hp1
    refine CW.condT rfl (not_t hq1) ?_
    refine CW.seq fun K19 hK19 => ?_
    refine CW.region ?_
    refine LW.pure rfl rfl (RV.move rfl) ?_
    refine LW.pure rfl rfl (RV.assign rfl) ?_
    refine LW.pure rfl rfl (RV.assign rfl) ?_
    refine LW.nil (hK19 _ _ ?_)
    refine CW.ret ?_
    obtain rfl := Option.some.inj F
    refine ⟨_, (ResOK.two rfl rfl), ?_⟩
    replace H := H.nilTbx encTrail (fun x => x.drains) encN 79 2 3 1
    replace R0 := H.ext
    replace H := H.pick (L' := [.inv (tbxB none ([])) (TbxH none 0 79 2 encTrail (fun x => x.drains) 3 1 encN ([]) (([] : List Trail)))]) [0] (by decide) rfl
    replace R0 := H.ext
    exact ⟨none, 0, ([]), (by first | rfl | (simp; done) | (simp; omega)), H⟩
end Go.D2
