/- Lemmas and walks that the proof of this claim uses: D2m12, D2m13, Tb22, D2p1, D2p2, D2p3, D2p4, D2p5, D2p7, D2p6, D2p9. -/
import Derived.Test.YtmpmomboclhjoaaDrainJoins2
set_option linter.unusedVariables false
set_option linter.unusedSimpArgs false
namespace Go.D2
open Go.Tb Go.Proofs Go.RowKit
theorem Tc76 : callable Try.prog 76 = true := by kernel_rfl
set_option maxRecDepth 20000 in
set_option maxHeartbeats 1000000 in
theorem ref02_named_ok {a0 : Int} {a1 : Int} {a2 : Int} {w : World} {res : Int} (F : ref02_named a0 a1 a2 = some res) : Calls Try.prog 76 #[.int .i64 a0, .int .i64 a1, .int .i64 a2] w (Rt w (.int .i64 res)) := by
  refine calls_of_cw (args := [.int .i64 a0, .int .i64 a1, .int .i64 a2]) Try.func76 rfl rfl rfl rfl ?_
  have H := Hp.start w
  have R0 := H.ext
  unfold ref02_named at F
  refine CW.seq fun K1 hK1 => ?_
  refine CW.region ?_
  refine LW.pure rfl rfl (RV.assign rfl) ?_
  refine LW.nil (hK1 _ _ ?_)
  refine CW.seqJ (fun ρ wl1 => (∃ (t0_2 : Int), ref02_named_k2 a2 t0_2 = some res ∧ ρ = [(0, .int .i64 t0_2), (2, .int .i64 a2), (6, .int .i64 0)] ∧ Hp w wl1 [])) ?_ ?_
  ·
    rintro _ wl1 ⟨t0_2, F, rfl, H⟩
    have R0 := H.ext
    unfold ref02_named_k2 at F
    refine CW.seqJ (fun ρ wl2 => (∃ (t0_1 : Int), ref02_named_k1 t0_1 = some res ∧ ρ = [(0, .int .i64 t0_1), (6, .int .i64 0)] ∧ Hp w wl2 [])) ?_ ?_
    ·
      rintro _ wl2 ⟨t0_1, F, rfl, H⟩
      have R0 := H.ext
      unfold ref02_named_k1 at F
      refine CW.seq fun K2 hK2 => ?_
      refine CW.region ?_
      refine LW.pure rfl rfl (RV.move rfl) ?_
      refine LW.pure rfl rfl (RV.assign rfl) ?_
      refine LW.nil (hK2 _ _ ?_)
      refine CW.ret ?_
      obtain rfl := Option.some.inj F
      refine ⟨_, (ResOK.one rfl), ?_⟩
      refine ⟨(by first | rfl | simp), R0⟩
    ·
      intro K3 hK3 jK13
      refine CW.seq fun K4 hK4 => ?_
      refine CW.region ?_
      refine LW.pure rfl rfl (RV.move rfl) ?_
      refine LW.pure rfl rfl (RV.move rfl) ?_
      refine LW.pure rfl rfl (RV.gtr rfl rfl) ?_
      refine LW.nil (hK4 _ _ ?_)
      by_cases hp1 : a2 < t0_2
      ·
        replace F := ite_y hp1 F
        have hq1 := dec_t hp1
        refine CW.condT rfl hq1 ?_
        obtain ⟨hg1, F⟩ := gd_some F
        refine CW.region ?_
        refine LW.pure rfl rfl (RV.move rfl) ?_
        refine LW.pure rfl rfl (RV.sub rfl rfl hg1) ?_
        refine LW.pure rfl rfl (RV.assign rfl) ?_
        refine LW.nil (jK13 _ _ ⟨_, ?_, ⟨(t0_2 - 1), F, rfl, H⟩⟩)
        exact ⟨rfl, rfl, trivial⟩
      ·
        replace F := ite_n hp1 F
        have hq1 := dec_f hp1
        refine CW.condF rfl hq1 ?_
        refine CW.skip (jK13 _ _ ⟨_, ?_, ⟨t0_2, F, rfl, H⟩⟩)
        exact ⟨rfl, rfl, trivial⟩
  ·
    intro K5 hK5 jK15
    refine CW.seq fun K6 hK6 => ?_
    refine CW.region ?_
    refine LW.pure rfl rfl (RV.move rfl) ?_
    refine LW.pure rfl rfl (RV.move rfl) ?_
    refine LW.pure rfl rfl (RV.eqi rfl rfl) ?_
    refine LW.nil (hK6 _ _ ?_)
    by_cases hp2 : a0 = a2
    ·
      replace F := ite_y hp2 F
      have hq2 := dec_t hp2
      refine CW.condT rfl hq2 ?_
      refine CW.region ?_
      refine LW.pure rfl rfl (RV.move rfl) ?_
      refine LW.pure rfl rfl (RV.assign rfl) ?_
      refine LW.nil (jK15 _ _ ⟨_, ?_, ⟨a1, F, rfl, H⟩⟩)
      exact ⟨rfl, rfl, rfl, trivial⟩
    ·
      replace F := ite_n hp2 F
      have hq2 := dec_f hp2
      refine CW.condF rfl hq2 ?_
      refine CW.skip (jK15 _ _ ⟨_, ?_, ⟨a0, F, rfl, H⟩⟩)
      exact ⟨rfl, rfl, rfl, trivial⟩
set_option maxRecDepth 20000 in
set_option maxHeartbeats 1000000 in
theorem ref02_Join_ok {a0 : Net} {a1 : Int} {a2 : Int} {A_a0_drains : Option Addr} {c_a0_drains : Nat} {w : World} {res : Net × Int} (h_a0_drains : Sl w A_a0_drains c_a0_drains 3 (a0.drains.map encDrain)) (F : ref02_Join a0 a1 a2 = some res) : Calls Try.prog 36 #[.agg #[.int .i64 a0.nodes, .int .i64 a0.from_, .int .i64 a0.to_, .slice A_a0_drains a0.drains.length c_a0_drains], .int .i64 a1, .int .i64 a2] w (fun e w' => ∃ (A0_drains : Option Addr) (c0_drains : Nat), e = .returned (.tuple #[.agg #[.int .i64 res.1.nodes, .int .i64 res.1.from_, .int .i64 res.1.to_, .slice A0_drains res.1.drains.length c0_drains], .int .i64 res.2]) ∧ Hp w w' [.own A0_drains c0_drains 52 3 (List.map encDrain res.1.drains)]) := by
  refine calls_of_cw (args := [.agg #[.int .i64 a0.nodes, .int .i64 a0.from_, .int .i64 a0.to_, .slice A_a0_drains a0.drains.length c_a0_drains], .int .i64 a1, .int .i64 a2]) Try.func36 rfl rfl rfl rfl ?_
  have H := Hp.start w
  have R0 := H.ext
  unfold ref02_Join at F
  refine CW.seq fun K1 hK1 => ?_
  refine CW.region ?_
  refine LW.go rfl rfl (OW.box rfl fun b1 w1 N1 => ?_)
  replace H := H.new N1 N1.blk
  replace R0 := H.ext
  refine LW.go rfl rfl (OW.alloc Tz24 fun b2 w2 N2 => ?_)
  replace H := H.new N2 N2.blk
  replace R0 := H.ext
  refine LW.pure rfl rfl (RV.assign rfl) ?_
  refine LW.nil (hK1 _ _ ?_)
  refine CW.seq fun K2 hK2 => ?_
  refine CW.seq fun K3 hK3 => ?_
  obtain ⟨r5, hr5, F⟩ := bnd_some F
  refine CW.region ?_
  refine LW.pure rfl rfl (RV.loadA [.int .i64 a0.nodes, .int .i64 a0.from_, .int .i64 a0.to_, .slice A_a0_drains a0.drains.length c_a0_drains] Tk24 rfl (H.blk 1 rfl).cells rfl rfl) ?_
  refine LW.go rfl rfl (OW.call Tc27 rfl (ref02_Validate_ok (a0 := a0) (h_a0_drains.ext R0) hr5) ?_)
  rintro _ w3 ⟨rfl, E1⟩
  refine ⟨_, rfl, ?_⟩
  replace H := H.grow E1
  replace R0 := H.ext
  refine LW.pure rfl rfl (RV.assign rfl) ?_
  refine LW.nil (hK3 _ _ ?_)
  refine CW.seq fun K4 hK4 => ?_
  refine CW.region ?_
  refine LW.pure rfl rfl (RV.move rfl) ?_
  refine LW.pure rfl rfl (RV.nei rfl rfl) ?_
  refine LW.nil (hK4 _ _ ?_)
  by_cases hp1 : r5 = 0
  ·
    replace F := ite_y hp1 F
    have hq1 := dec_t hp1
    refine CW.condF rfl (not_f hq1) ?_
    refine CW.skip (hK2 _ _ ?_)
    refine CW.seq fun K5 hK5 => ?_
    refine CW.seqJ (fun ρ wl1 => (∃ (t33_1 : Bool), ref02_Join_k5 a0 a1 a2 t33_1 = some res ∧ ρ = [(1, .int .i64 a1), (2, .int .i64 a2), (3, .pointer (some (⟨b1, 0, none⟩))), (6, .pointer (some (⟨b2, 0, none⟩))), (7, .int .i64 0), (33, .bool t33_1)] ∧ Hp w wl1 [.blk b1 24 [.int .i64 a0.nodes, .int .i64 a0.from_, .int .i64 a0.to_, .slice A_a0_drains a0.drains.length c_a0_drains], .blk b2 24 [.int .i64 0, .int .i64 0, .int .i64 0, .slice none 0 0]])) ?_ ?_
    ·
      rintro _ wl1 ⟨t33_1, F, rfl, H⟩
      have R0 := H.ext
      unfold ref02_Join_k5 at F
      by_cases hp2 : t33_1 = true
      ·
        replace F := ite_y hp2 F
        have hq2 : t33_1 = true := hp2
        refine CW.condT rfl hq2 ?_
        refine CW.seq fun K6 hK6 => ?_
        refine CW.region ?_
        refine LW.pure rfl rfl (RV.build (vs := []) (cs := [.int .i64 0, .int .i64 0, .int .i64 0, .slice none 0 0]) rfl (fun _ => by kernel_rfl)) ?_
        refine LW.go rfl rfl (OW.store Tk24 rfl rfl (H.blk 1 rfl) (off := 0) (vs := [.int .i64 0, .int .i64 0, .int .i64 0, .slice none 0 0]) rfl rfl rfl rfl rfl fun w4 S1 => ?_)
        replace H : Hp w w4 [.blk b1 24 [.int .i64 a0.nodes, .int .i64 a0.from_, .int .i64 a0.to_, .slice A_a0_drains a0.drains.length c_a0_drains], .blk b2 24 [.int .i64 0, .int .i64 0, .int .i64 0, .slice none 0 0]] := H.stored 1 rfl S1
        replace R0 := H.ext
        refine LW.pure rfl rfl (RV.assign rfl) ?_
        refine LW.nil (hK6 _ _ ?_)
        refine CW.ret ?_
        obtain rfl := Option.some.inj F
        refine ⟨_, (ResOK.two ⟨_, rfl, run_loadVar_agg Tk24 (H.blk 1 rfl).cells (us := [.int .i64 0, .int .i64 0, .int .i64 0, .slice none 0 0]) rfl rfl⟩ rfl), ?_⟩
        replace H := H.nilOwn 52 3
        replace R0 := H.ext
        replace H := H.pick (L' := [.own none 0 52 3 (List.map encDrain (([] : List Drain)))]) [0] (by decide) rfl
        replace R0 := H.ext
        exact ⟨none, 0, (by first | rfl | (simp; done) | (simp; omega)), H⟩
      ·
        replace F := ite_n hp2 F
        have hq2 : t33_1 = false := raw_f hp2
        refine CW.condF rfl hq2 ?_
        refine CW.skip (hK5 _ _ ?_)
        refine CW.seq fun K7 hK7 => ?_
        refine CW.seqJ (fun ρ wl2 => (∃ (t61_1 : Bool), ref02_Join_k4 a0 a1 a2 t61_1 = some res ∧ ρ = [(1, .int .i64 a1), (2, .int .i64 a2), (3, .pointer (some (⟨b1, 0, none⟩))), (6, .pointer (some (⟨b2, 0, none⟩))), (7, .int .i64 0), (61, .bool t61_1)] ∧ Hp w wl2 [.blk b1 24 [.int .i64 a0.nodes, .int .i64 a0.from_, .int .i64 a0.to_, .slice A_a0_drains a0.drains.length c_a0_drains], .blk b2 24 [.int .i64 0, .int .i64 0, .int .i64 0, .slice none 0 0]])) ?_ ?_
        ·
          rintro _ wl2 ⟨t61_1, F, rfl, H⟩
          have R0 := H.ext
          unfold ref02_Join_k4 at F
          by_cases hp3 : t61_1 = true
          ·
            replace F := ite_y hp3 F
            have hq3 : t61_1 = true := hp3
            refine CW.condT rfl hq3 ?_
            refine CW.seq fun K8 hK8 => ?_
            refine CW.region ?_
            refine LW.pure rfl rfl (RV.build (vs := []) (cs := [.int .i64 0, .int .i64 0, .int .i64 0, .slice none 0 0]) rfl (fun _ => by kernel_rfl)) ?_
            refine LW.go rfl rfl (OW.store Tk24 rfl rfl (H.blk 1 rfl) (off := 0) (vs := [.int .i64 0, .int .i64 0, .int .i64 0, .slice none 0 0]) rfl rfl rfl rfl rfl fun w5 S2 => ?_)
            replace H : Hp w w5 [.blk b1 24 [.int .i64 a0.nodes, .int .i64 a0.from_, .int .i64 a0.to_, .slice A_a0_drains a0.drains.length c_a0_drains], .blk b2 24 [.int .i64 0, .int .i64 0, .int .i64 0, .slice none 0 0]] := H.stored 1 rfl S2
            replace R0 := H.ext
            refine LW.pure rfl rfl (RV.assign rfl) ?_
            refine LW.nil (hK8 _ _ ?_)
            refine CW.ret ?_
            obtain rfl := Option.some.inj F
            refine ⟨_, (ResOK.two ⟨_, rfl, run_loadVar_agg Tk24 (H.blk 1 rfl).cells (us := [.int .i64 0, .int .i64 0, .int .i64 0, .slice none 0 0]) rfl rfl⟩ rfl), ?_⟩
            replace H := H.nilOwn 52 3
            replace R0 := H.ext
            replace H := H.pick (L' := [.own none 0 52 3 (List.map encDrain (([] : List Drain)))]) [0] (by decide) rfl
            replace R0 := H.ext
            exact ⟨none, 0, (by first | rfl | (simp; done) | (simp; omega)), H⟩
          ·
            replace F := ite_n hp3 F
            have hq3 : t61_1 = false := raw_f hp3
            refine CW.condF rfl hq3 ?_
            refine CW.skip (hK7 _ _ ?_)
            refine CW.seqJ (fun ρ wl3 => (∃ (c2_1_1 : Int) (c2_2_1 : Int) (bk1 : Nat), ref02_Join_k3 a0 a1 a2 c2_1_1 c2_2_1 = some res ∧ ρ = [(1, .int .i64 a1), (2, .int .i64 a2), (3, .pointer (some (⟨b1, 0, none⟩))), (6, .pointer (some (⟨b2, 0, none⟩))), (7, .int .i64 0), (9, .pointer (some (⟨bk1, 0, none⟩)))] ∧ Hp w wl3 [.blk b1 24 [.int .i64 a0.nodes, .int .i64 a0.from_, .int .i64 a0.to_, .slice A_a0_drains a0.drains.length c_a0_drains], .blk b2 24 [.int .i64 0, .int .i64 0, .int .i64 0, .slice none 0 0], .blk bk1 24 [.int .i64 (a0.nodes - 1), .int .i64 c2_1_1, .int .i64 c2_2_1, .slice none 0 0]])) ?_ ?_
            ·
              rintro _ wl3 ⟨c2_1_1, c2_2_1, bk1, F, rfl, H⟩
              have R0 := H.ext
              unfold ref02_Join_k3 at F
              refine CW.seqJ (fun ρ wl4 => (∃ (l1 : List Drain) (Al1 : Option Addr) (cl1 : Nat), ref02_Join_k1 a0 c2_1_1 c2_2_1 l1 = some res ∧ ρ = [(6, .pointer (some (⟨b2, 0, none⟩))), (7, .int .i64 0), (9, .pointer (some (⟨bk1, 0, none⟩)))] ∧ Hp w wl4 [.own Al1 cl1 52 3 (List.map encDrain l1), .blk b2 24 [.int .i64 0, .int .i64 0, .int .i64 0, .slice none 0 0], .blk bk1 24 [.int .i64 (a0.nodes - 1), .int .i64 c2_1_1, .int .i64 c2_2_1, .slice Al1 l1.length cl1]])) ?_ ?_
              ·
                rintro _ wl4 ⟨l1, Al1, cl1, F, rfl, H⟩
                have R0 := H.ext
                unfold ref02_Join_k1 at F
                refine CW.seq fun K9 hK9 => ?_
                refine CW.region ?_
                refine LW.pure rfl rfl (RV.loadA [.int .i64 (a0.nodes - 1), .int .i64 c2_1_1, .int .i64 c2_2_1, .slice Al1 l1.length cl1] Tk24 rfl (H.blk 2 rfl).cells rfl rfl) ?_
                refine LW.go rfl rfl (OW.store Tk24 rfl rfl (H.blk 1 rfl) (off := 0) (vs := [.int .i64 (a0.nodes - 1), .int .i64 c2_1_1, .int .i64 c2_2_1, .slice Al1 l1.length cl1]) rfl rfl rfl rfl rfl fun w6 S3 => ?_)
                replace H : Hp w w6 [.own Al1 cl1 52 3 (List.map encDrain l1), .blk b2 24 [.int .i64 (a0.nodes - 1), .int .i64 c2_1_1, .int .i64 c2_2_1, .slice Al1 l1.length cl1], .blk bk1 24 [.int .i64 (a0.nodes - 1), .int .i64 c2_1_1, .int .i64 c2_2_1, .slice Al1 l1.length cl1]] := H.stored 1 rfl S3
                replace R0 := H.ext
                refine LW.pure rfl rfl (RV.assign rfl) ?_
                refine LW.nil (hK9 _ _ ?_)
                refine CW.ret ?_
                obtain rfl := Option.some.inj F
                refine ⟨_, (ResOK.two ⟨_, rfl, run_loadVar_agg Tk24 (H.blk 1 rfl).cells (us := [.int .i64 (a0.nodes - 1), .int .i64 c2_1_1, .int .i64 c2_2_1, .slice Al1 l1.length cl1]) rfl rfl⟩ rfl), ?_⟩
                replace H := H.pick (L' := [.own Al1 cl1 52 3 (List.map encDrain l1)]) [0] (by decide) rfl
                replace R0 := H.ext
                exact ⟨Al1, cl1, (by first | rfl | (simp; done) | (simp; omega)), H⟩
              ·
                intro K10 hK10 jK108
                refine CW.seq fun K11 hK11 => ?_
                refine CW.region ?_
                refine LW.pure rfl rfl (RV.assign rfl) ?_
                refine LW.nil (hK11 _ _ ?_)
                refine CW.block ?_
                replace H := H.nilOwn 52 3
                replace R0 := H.ext
                replace H := H.cast (L' := [.own none 0 52 3 (List.map encDrain (([] : List Drain))), .blk b1 24 [.int .i64 a0.nodes, .int .i64 a0.from_, .int .i64 a0.to_, .slice A_a0_drains a0.drains.length c_a0_drains], .blk b2 24 [.int .i64 0, .int .i64 0, .int .i64 0, .slice none 0 0], .blk bk1 24 [.int .i64 (a0.nodes - 1), .int .i64 c2_1_1, .int .i64 c2_2_1, .slice none ((([] : List Drain)).length) 0]]) (by first | rfl | (simp only [List.length_set]; done) | simp)
                refine CW.loop (fun meas ρ wl5 => ∃ (t10_1 : Int) (l3 : List Drain) (Al3 : Option Addr) (cl3 : Nat), ref02_Join_L1 a0 a1 a2 c2_1_1 c2_2_1 meas t10_1 l3 = some res ∧ ρ = [(1, .int .i64 a1), (2, .int .i64 a2), (3, .pointer (some (⟨b1, 0, none⟩))), (6, .pointer (some (⟨b2, 0, none⟩))), (7, .int .i64 0), (9, .pointer (some (⟨bk1, 0, none⟩))), (10, .int .i64 t10_1)] ∧ Hp w wl5 [.own Al3 cl3 52 3 (List.map encDrain l3), .blk b1 24 [.int .i64 a0.nodes, .int .i64 a0.from_, .int .i64 a0.to_, .slice A_a0_drains a0.drains.length c_a0_drains], .blk b2 24 [.int .i64 0, .int .i64 0, .int .i64 0, .slice none 0 0], .blk bk1 24 [.int .i64 (a0.nodes - 1), .int .i64 c2_1_1, .int .i64 c2_2_1, .slice Al3 l3.length cl3]]) FU ⟨_, ?_, ((0 : Int)), (([] : List Drain)), none, 0, F, rfl, H⟩ ?_
                · exact ⟨rfl, rfl, rfl, rfl, rfl, rfl, rfl, trivial⟩
                rintro mk1 _ wl5 ⟨t10_1, l3, Al3, cl3, F, rfl, H⟩
                have R0 := H.ext
                replace F := ref02_Join_L1_s F
                obtain ⟨mk1, rfl, F⟩ := F
                generalize hrec1 : ref02_Join_L1 a0 a1 a2 c2_1_1 c2_2_1 mk1 = rec1 at F
                unfold ref02_Join_B1 at F
                refine CW.seq fun K12 hK12 => ?_
                refine CW.seq fun K13 hK13 => ?_
                refine CW.region ?_
                refine LW.pure rfl rfl (RV.move rfl) ?_
                refine LW.pure rfl rfl (RV.fieldAddr Tf24_3 rfl) ?_
                refine LW.pure rfl rfl (RV.load1 Tk22 rfl ((H.blk 1 rfl).cells.off 3) rfl) ?_
                refine LW.pure rfl rfl (RV.len Ts22 rfl) ?_
                refine LW.pure rfl rfl (RV.lss rfl rfl) ?_
                refine LW.nil (hK13 _ _ ?_)
                by_cases hp4 : t10_1 < ((a0.drains.length : Int))
                ·
                  replace F := ite_y hp4 F
                  have hq4 := dec_t hp4
                  refine CW.condT rfl hq4 ?_
                  refine CW.skip (hK12 _ _ ?_)
                  refine CW.seqJ (fun ρ wl6 => (∃ (l2 : List Drain) (Al2 : Option Addr) (cl2 : Nat), ref02_Join_k2 t10_1 rec1 l2 = some res ∧ ρ = [(1, .int .i64 a1), (2, .int .i64 a2), (3, .pointer (some (⟨b1, 0, none⟩))), (6, .pointer (some (⟨b2, 0, none⟩))), (7, .int .i64 0), (9, .pointer (some (⟨bk1, 0, none⟩))), (10, .int .i64 t10_1)] ∧ Hp w wl6 [.own Al2 cl2 52 3 (List.map encDrain l2), .blk b1 24 [.int .i64 a0.nodes, .int .i64 a0.from_, .int .i64 a0.to_, .slice A_a0_drains a0.drains.length c_a0_drains], .blk b2 24 [.int .i64 0, .int .i64 0, .int .i64 0, .slice none 0 0], .blk bk1 24 [.int .i64 (a0.nodes - 1), .int .i64 c2_1_1, .int .i64 c2_2_1, .slice Al2 l2.length cl2]])) ?_ ?_
                  ·
                    rintro _ wl6 ⟨l2, Al2, cl2, F, rfl, H⟩
                    have R0 := H.ext
                    unfold ref02_Join_k2 at F
                    obtain ⟨hg1, F⟩ := gd_some F
                    refine CW.region ?_
                    refine LW.pure rfl rfl (RV.move rfl) ?_
                    refine LW.pure rfl rfl (RV.add rfl rfl hg1) ?_
                    refine LW.pure rfl rfl (RV.assign rfl) ?_
                    refine LW.nil ?_
                    subst hrec1
                    refine ⟨mk1, Nat.lt_succ_self _, _, ?_, (t10_1 + 1), l2, Al2, cl2, F, rfl, H⟩
                    exact ⟨rfl, rfl, rfl, rfl, rfl, rfl, rfl, trivial⟩
                  ·
                    intro K14 hK14 jK133
                    refine CW.block ?_
                    refine CW.seq fun K15 hK15 => ?_
                    obtain ⟨x1, hbx1, hx1, F⟩ := ix_some F
                    refine CW.region ?_
                    refine LW.pure rfl rfl (RV.fieldAddr Tf24_3 rfl) ?_
                    refine LW.pure rfl rfl (RV.load1 Tk22 rfl ((H.blk 1 rfl).cells.off 3) rfl) ?_
                    refine LW.pure rfl rfl (RV.move rfl) ?_
                    refine LW.pure rfl rfl (RV.indexAddr Ts22 rfl rfl hbx1 (h_a0_drains.addr_ hx1)) ?_
                    refine LW.pure rfl rfl (RV.loadA [.int .i64 x1.from_, .int .i64 x1.to_, .int .i64 x1.width] Tk52 rfl ((h_a0_drains.at_ hx1).ext R0) rfl rfl) ?_
                    refine LW.go rfl rfl (OW.alloc Tz52 fun b3 w7 N3 => ?_)
                    replace H := H.new N3 N3.blk
                    replace R0 := H.ext
                    refine LW.go rfl rfl (OW.store Tk52 rfl rfl (H.blk 0 rfl) (off := 0) (vs := [.int .i64 x1.from_, .int .i64 x1.to_, .int .i64 x1.width]) rfl rfl rfl rfl rfl fun w8 S4 => ?_)
                    replace H : Hp w w8 [.blk b3 52 [.int .i64 x1.from_, .int .i64 x1.to_, .int .i64 x1.width], .own Al3 cl3 52 3 (List.map encDrain l3), .blk b1 24 [.int .i64 a0.nodes, .int .i64 a0.from_, .int .i64 a0.to_, .slice A_a0_drains a0.drains.length c_a0_drains], .blk b2 24 [.int .i64 0, .int .i64 0, .int .i64 0, .slice none 0 0], .blk bk1 24 [.int .i64 (a0.nodes - 1), .int .i64 c2_1_1, .int .i64 c2_2_1, .slice Al3 l3.length cl3]] := H.stored 0 rfl S4
                    replace R0 := H.ext
                    refine LW.nil (hK15 _ _ ?_)
                    refine CW.seq fun K16 hK16 => ?_
                    obtain ⟨r1, hr1, F⟩ := bnd_some F
                    obtain ⟨r2, hr2, F⟩ := bnd_some F
                    refine CW.draw [] (fun _ => True) (.cons 0 1 (.cons 1 1 (.cons 2 1 (.cons 3 1 (.cons 5 1 (.cons 6 1 (.cons 7 1 (.cons 8 1 (.cons 4 0 (.cons 9 0 (.cons 10 1 (.cons 11 1 .nil)))))))))))) mixed (by kernel_rfl) fun w9 E2 => ?_
                    replace H := H.grow E2
                    replace R0 := H.ext
                    refine DW.fix rfl rfl rfl (fun _ EQ => RV.fieldAddr Tf52_0 rfl) ?_
                    refine DW.fix rfl rfl rfl (fun _ EQ => RV.load1 Tk3 rfl (((H.grow EQ).blk 0 rfl).cells.off 0) rfl) ?_
                    refine DW.fix rfl rfl rfl (fun _ EQ => RV.move rfl) ?_
                    refine DW.fix rfl rfl rfl (fun _ EQ => RV.move rfl) ?_
                    refine DW.fix rfl rfl rfl (fun _ EQ => RV.fieldAddr Tf52_1 rfl) ?_
                    refine DW.fix rfl rfl rfl (fun _ EQ => RV.load1 Tk3 rfl (((H.grow EQ).blk 0 rfl).cells.off 1) rfl) ?_
                    refine DW.fix rfl rfl rfl (fun _ EQ => RV.move rfl) ?_
                    refine DW.fix rfl rfl rfl (fun _ EQ => RV.move rfl) ?_
                    refine DW.sole rfl rfl rfl (OW.call Tc76 rfl (ref02_named_ok (a0 := x1.from_) (a1 := a1) (a2 := a2) hr1) ?_)
                    rintro _ w10 ⟨rfl, E3⟩
                    refine ⟨_, rfl, fun _ => E3, ModX.ext E3, ?_⟩
                    replace H := H.grow E3
                    replace R0 := H.ext
                    refine DW.sole rfl rfl rfl (OW.call Tc76 rfl (ref02_named_ok (a0 := x1.to_) (a1 := a1) (a2 := a2) hr2) ?_)
                    rintro _ w11 ⟨rfl, E4⟩
                    refine ⟨_, rfl, fun _ => E4, ModX.ext E4, ?_⟩
                    replace H := H.grow E4
                    replace R0 := H.ext
                    refine DW.fix rfl rfl rfl (fun _ EQ => RV.assign rfl) ?_
                    refine DW.fix rfl rfl rfl (fun _ EQ => RV.assign rfl) ?_
                    refine DW.nil (hK16 _ _ ?_)
                    refine CW.seq fun K17 hK17 => ?_
                    refine CW.region ?_
                    refine LW.pure rfl rfl (RV.move rfl) ?_
                    refine LW.pure rfl rfl (RV.move rfl) ?_
                    refine LW.pure rfl rfl (RV.nei rfl rfl) ?_
                    refine LW.nil (hK17 _ _ ?_)
                    by_cases hp5 : r1 = r2
                    ·
                      replace F := ite_y hp5 F
                      have hq5 := dec_t hp5
                      refine CW.condF rfl (not_f hq5) ?_
                      replace H := H.pick (L' := [.own Al3 cl3 52 3 (List.map encDrain l3), .blk b1 24 [.int .i64 a0.nodes, .int .i64 a0.from_, .int .i64 a0.to_, .slice A_a0_drains a0.drains.length c_a0_drains], .blk b2 24 [.int .i64 0, .int .i64 0, .int .i64 0, .slice none 0 0], .blk bk1 24 [.int .i64 (a0.nodes - 1), .int .i64 c2_1_1, .int .i64 c2_2_1, .slice Al3 l3.length cl3]]) [1, 2, 3, 4] (by decide) rfl
                      replace R0 := H.ext
                      refine CW.skip (jK133 _ _ ⟨_, ?_, ⟨l3, Al3, cl3, F, rfl, H⟩⟩)
                      exact ⟨rfl, rfl, rfl, rfl, rfl, rfl, rfl, trivial⟩
                    ·
                      replace F := ite_n hp5 F
                      have hq5 := dec_f hp5
                      refine CW.condT rfl (not_t hq5) ?_
                      obtain ⟨hg2, F⟩ := gd_some F
                      refine CW.region ?_
                      refine LW.pure rfl rfl (RV.fieldAddr Tf24_3 rfl) ?_
                      refine LW.pure rfl rfl (RV.load1 Tk22 rfl ((H.blk 4 rfl).cells.off 3) rfl) ?_
                      refine LW.pure rfl rfl (RV.move rfl) ?_
                      refine LW.pure rfl rfl (RV.move rfl) ?_
                      refine LW.pure rfl rfl (RV.fieldAddr Tf52_2 rfl) ?_
                      refine LW.pure rfl rfl (RV.load1 Tk3 rfl ((H.blk 0 rfl).cells.off 2) rfl) ?_
                      refine LW.pure rfl rfl (RV.build (vs := [.int .i64 r1, .int .i64 r2, .int .i64 x1.width]) (cs := [.int .i64 r1, .int .i64 r2, .int .i64 x1.width]) rfl (fun _ => by kernel_rfl)) ?_
                      refine LW.go rfl rfl (OW.buildSlice (e := 52) (vs := [.agg #[.int .i64 r1, .int .i64 r2, .int .i64 x1.width]]) (cs := [.int .i64 r1, .int .i64 r2, .int .i64 x1.width]) rfl (fun _ => by kernel_rfl) fun b4 w12 N4 => ?_)
                      replace H := H.made' (k := 3) (t := 52) (enc := encDrain) (l := ([(⟨r1, r2, x1.width⟩ : Drain)] : List Drain)) N4 N4.blk (fun _ => rfl) rfl (by first | decide | omega | (simp; done) | (simp; omega))
                      replace R0 := H.ext
                      refine LW.go rfl rfl (OW.appendG (enc := encDrain) (l := l3) (xs := ([(⟨r1, r2, x1.width⟩ : Drain)] : List Drain)) Ts22 rfl (look_slice rfl (by first | rfl | (simp; done) | (simp; omega))) (H.own 2 rfl) (H.own 0 rfl).sl (fun _ => rfl) rfl rfl hg2 (by decide) fun A1 c1 w13 O1 M1 D1 => ?_)
                      replace H : Hp w w13 [.own (some ⟨b4, 0, none⟩) ((([(⟨r1, r2, x1.width⟩ : Drain)] : List Drain)).length) 52 3 (List.map encDrain (([(⟨r1, r2, x1.width⟩ : Drain)] : List Drain))), .blk b3 52 [.int .i64 x1.from_, .int .i64 x1.to_, .int .i64 x1.width], .own A1 c1 52 3 (List.map encDrain ((l3 ++ ([(⟨r1, r2, x1.width⟩ : Drain)] : List Drain)))), .blk b1 24 [.int .i64 a0.nodes, .int .i64 a0.from_, .int .i64 a0.to_, .slice A_a0_drains a0.drains.length c_a0_drains], .blk b2 24 [.int .i64 0, .int .i64 0, .int .i64 0, .slice none 0 0], .blk bk1 24 [.int .i64 (a0.nodes - 1), .int .i64 c2_1_1, .int .i64 c2_2_1, .slice Al3 l3.length cl3]] := H.mod 2 rfl M1 O1 D1
                      replace R0 := H.ext
                      refine LW.pure rfl rfl (RV.fieldAddr Tf24_3 rfl) ?_
                      refine LW.go rfl rfl (OW.store Tk22 rfl rfl (H.blk 5 rfl) (off := 3) (vs := [.slice A1 (((l3 ++ ([(⟨r1, r2, x1.width⟩ : Drain)] : List Drain))).length) c1]) rfl rfl rfl rfl rfl fun w14 S5 => ?_)
                      replace H : Hp w w14 [.own (some ⟨b4, 0, none⟩) ((([(⟨r1, r2, x1.width⟩ : Drain)] : List Drain)).length) 52 3 (List.map encDrain (([(⟨r1, r2, x1.width⟩ : Drain)] : List Drain))), .blk b3 52 [.int .i64 x1.from_, .int .i64 x1.to_, .int .i64 x1.width], .own A1 c1 52 3 (List.map encDrain ((l3 ++ ([(⟨r1, r2, x1.width⟩ : Drain)] : List Drain)))), .blk b1 24 [.int .i64 a0.nodes, .int .i64 a0.from_, .int .i64 a0.to_, .slice A_a0_drains a0.drains.length c_a0_drains], .blk b2 24 [.int .i64 0, .int .i64 0, .int .i64 0, .slice none 0 0], .blk bk1 24 [.int .i64 (a0.nodes - 1), .int .i64 c2_1_1, .int .i64 c2_2_1, .slice A1 (((l3 ++ ([(⟨r1, r2, x1.width⟩ : Drain)] : List Drain))).length) c1]] := H.stored 5 rfl S5
                      replace R0 := H.ext
                      replace H := H.pick (L' := [.own A1 c1 52 3 (List.map encDrain ((l3 ++ ([(⟨r1, r2, x1.width⟩ : Drain)] : List Drain)))), .blk b1 24 [.int .i64 a0.nodes, .int .i64 a0.from_, .int .i64 a0.to_, .slice A_a0_drains a0.drains.length c_a0_drains], .blk b2 24 [.int .i64 0, .int .i64 0, .int .i64 0, .slice none 0 0], .blk bk1 24 [.int .i64 (a0.nodes - 1), .int .i64 c2_1_1, .int .i64 c2_2_1, .slice A1 (((l3 ++ ([(⟨r1, r2, x1.width⟩ : Drain)] : List Drain))).length) c1]]) [2, 3, 4, 5] (by decide) rfl
                      replace R0 := H.ext
                      refine LW.nil (jK133 _ _ ⟨_, ?_, ⟨((l3 ++ ([(⟨r1, r2, x1.width⟩ : Drain)] : List Drain))), A1, c1, F, rfl, H⟩⟩)
                      exact ⟨rfl, rfl, rfl, rfl, rfl, rfl, rfl, trivial⟩
                ·
                  replace F := ite_n hp4 F
                  have hq4 := dec_f hp4
                  refine CW.condF rfl hq4 ?_
                  replace H := H.pick (L' := [.own Al3 cl3 52 3 (List.map encDrain l3), .blk b2 24 [.int .i64 0, .int .i64 0, .int .i64 0, .slice none 0 0], .blk bk1 24 [.int .i64 (a0.nodes - 1), .int .i64 c2_1_1, .int .i64 c2_2_1, .slice Al3 l3.length cl3]]) [0, 2, 3] (by decide) rfl
                  replace R0 := H.ext
                  refine CW.exit (jK108 _ _ ⟨_, ?_, ⟨l3, Al3, cl3, F, rfl, H⟩⟩)
                  exact ⟨rfl, rfl, rfl, trivial⟩
            ·
              intro K18 hK18 jK137
              obtain ⟨hg3, F⟩ := gd_some F
              obtain ⟨r3, hr3, F⟩ := bnd_some F
              obtain ⟨r4, hr4, F⟩ := bnd_some F
              refine CW.draw [15] (fun _ => True) (.cons 0 1 (.cons 1 1 (.cons 2 1 (.cons 3 1 (.cons 4 1 (.cons 5 1 (.cons 6 1 (.cons 8 1 (.cons 9 1 (.cons 10 1 (.cons 11 1 (.alt 7 (.alt 12 (.cons 13 1 (.cons 14 0 (.cons 15 0 .nil))) (.cons 14 0 (.cons 12 0 (.cons 13 1 (.cons 15 0 .nil))))) (.cons 14 0 (.cons 7 0 (.cons 12 0 (.cons 13 1 (.cons 15 0 .nil))))))))))))))))) mixed (by kernel_rfl) fun w15 E5 => ?_
              replace H := H.grow E5
              replace R0 := H.ext
              refine DW.fix rfl rfl rfl (fun _ EQ => RV.fieldAddr Tf24_0 rfl) ?_
              refine DW.fix rfl rfl rfl (fun _ EQ => RV.load1 Tk3 rfl (((H.grow EQ).blk 0 rfl).cells.off 0) rfl) ?_
              refine DW.fix rfl rfl rfl (fun _ EQ => RV.sub rfl rfl hg3) ?_
              refine DW.fix rfl rfl rfl (fun _ EQ => RV.fieldAddr Tf24_1 rfl) ?_
              refine DW.fix rfl rfl rfl (fun _ EQ => RV.load1 Tk3 rfl (((H.grow EQ).blk 0 rfl).cells.off 1) rfl) ?_
              refine DW.fix rfl rfl rfl (fun _ EQ => RV.move rfl) ?_
              refine DW.fix rfl rfl rfl (fun _ EQ => RV.move rfl) ?_
              refine DW.fix rfl rfl rfl (fun _ EQ => RV.fieldAddr Tf24_2 rfl) ?_
              refine DW.fix rfl rfl rfl (fun _ EQ => RV.load1 Tk3 rfl (((H.grow EQ).blk 0 rfl).cells.off 2) rfl) ?_
              refine DW.fix rfl rfl rfl (fun _ EQ => RV.move rfl) ?_
              refine DW.fix rfl rfl rfl (fun _ EQ => RV.move rfl) ?_
              refine DW.alt ?_ ?_
              ·
                refine DW.sole rfl rfl rfl (OW.call Tc76 rfl (ref02_named_ok (a0 := a0.from_) (a1 := a1) (a2 := a2) hr3) ?_)
                rintro _ w16 ⟨rfl, E6⟩
                refine ⟨_, rfl, fun _ => E6, ModX.ext E6, ?_⟩
                replace H := H.grow E6
                replace R0 := H.ext
                refine DW.alt ?_ ?_
                ·
                  refine DW.sole rfl rfl rfl (OW.call Tc76 rfl (ref02_named_ok (a0 := a0.to_) (a1 := a1) (a2 := a2) hr4) ?_)
                  rintro _ w17 ⟨rfl, E7⟩
                  refine ⟨_, rfl, fun _ => E7, ModX.ext E7, ?_⟩
                  replace H := H.grow E7
                  replace R0 := H.ext
                  refine DW.fix rfl rfl rfl (fun _ EQ => RV.build (vs := [.int .i64 (a0.nodes - 1), .int .i64 r3, .int .i64 r4]) (cs := [.int .i64 (a0.nodes - 1), .int .i64 r3, .int .i64 r4, .slice none 0 0]) rfl (fun _ => by kernel_rfl)) ?_
                  refine DW.sole rfl rfl rfl (OW.alloc Tz24 fun b5 w18 N5 => ?_)
                  refine ⟨fun _ => N5.ext, ModX.ext N5.ext, ?_⟩
                  replace H := H.new N5 N5.blk
                  replace R0 := H.ext
                  refine DW.sole rfl rfl rfl (OW.store Tk24 rfl rfl (H.blk 0 rfl) (off := 0) (vs := [.int .i64 (a0.nodes - 1), .int .i64 r3, .int .i64 r4, .slice none 0 0]) rfl rfl rfl rfl rfl fun w19 S6 => ?_)
                  refine ⟨fun h => absurd h (by decide), S6.modx trivial, ?_⟩
                  replace H : Hp w w19 [.blk b5 24 [.int .i64 (a0.nodes - 1), .int .i64 r3, .int .i64 r4, .slice none 0 0], .blk b1 24 [.int .i64 a0.nodes, .int .i64 a0.from_, .int .i64 a0.to_, .slice A_a0_drains a0.drains.length c_a0_drains], .blk b2 24 [.int .i64 0, .int .i64 0, .int .i64 0, .slice none 0 0]] := H.stored 0 rfl S6
                  replace R0 := H.ext
                  replace H := H.pick (L' := [.blk b1 24 [.int .i64 a0.nodes, .int .i64 a0.from_, .int .i64 a0.to_, .slice A_a0_drains a0.drains.length c_a0_drains], .blk b2 24 [.int .i64 0, .int .i64 0, .int .i64 0, .slice none 0 0], .blk b5 24 [.int .i64 (a0.nodes - 1), .int .i64 r3, .int .i64 r4, .slice none 0 0]]) [1, 2, 0] (by decide) rfl
                  replace R0 := H.ext
                  refine DW.nil (jK137 _ _ ⟨_, ?_, ⟨r3, r4, b5, F, rfl, H⟩⟩)
                  exact ⟨rfl, rfl, rfl, rfl, rfl, rfl, trivial⟩
                ·
                  refine DW.sole rfl rfl rfl (OW.alloc Tz24 fun b6 w20 N6 => ?_)
                  refine ⟨fun _ => N6.ext, ModX.ext N6.ext, ?_⟩
                  replace H := H.new N6 N6.blk
                  replace R0 := H.ext
                  refine DW.sole rfl rfl rfl (OW.call Tc76 rfl (ref02_named_ok (a0 := a0.to_) (a1 := a1) (a2 := a2) hr4) ?_)
                  rintro _ w21 ⟨rfl, E8⟩
                  refine ⟨_, rfl, fun _ => E8, ModX.ext E8, ?_⟩
                  replace H := H.grow E8
                  replace R0 := H.ext
                  refine DW.fix rfl rfl rfl (fun _ EQ => RV.build (vs := [.int .i64 (a0.nodes - 1), .int .i64 r3, .int .i64 r4]) (cs := [.int .i64 (a0.nodes - 1), .int .i64 r3, .int .i64 r4, .slice none 0 0]) rfl (fun _ => by kernel_rfl)) ?_
                  refine DW.sole rfl rfl rfl (OW.store Tk24 rfl rfl (H.blk 0 rfl) (off := 0) (vs := [.int .i64 (a0.nodes - 1), .int .i64 r3, .int .i64 r4, .slice none 0 0]) rfl rfl rfl rfl rfl fun w22 S7 => ?_)
                  refine ⟨fun h => absurd h (by decide), S7.modx trivial, ?_⟩
                  replace H : Hp w w22 [.blk b6 24 [.int .i64 (a0.nodes - 1), .int .i64 r3, .int .i64 r4, .slice none 0 0], .blk b1 24 [.int .i64 a0.nodes, .int .i64 a0.from_, .int .i64 a0.to_, .slice A_a0_drains a0.drains.length c_a0_drains], .blk b2 24 [.int .i64 0, .int .i64 0, .int .i64 0, .slice none 0 0]] := H.stored 0 rfl S7
                  replace R0 := H.ext
                  replace H := H.pick (L' := [.blk b1 24 [.int .i64 a0.nodes, .int .i64 a0.from_, .int .i64 a0.to_, .slice A_a0_drains a0.drains.length c_a0_drains], .blk b2 24 [.int .i64 0, .int .i64 0, .int .i64 0, .slice none 0 0], .blk b6 24 [.int .i64 (a0.nodes - 1), .int .i64 r3, .int .i64 r4, .slice none 0 0]]) [1, 2, 0] (by decide) rfl
                  replace R0 := H.ext
                  refine DW.nil (jK137 _ _ ⟨_, ?_, ⟨r3, r4, b6, F, rfl, H⟩⟩)
                  exact ⟨rfl, rfl, rfl, rfl, rfl, rfl, trivial⟩
              ·
                refine DW.sole rfl rfl rfl (OW.alloc Tz24 fun b7 w23 N7 => ?_)
                refine ⟨fun _ => N7.ext, ModX.ext N7.ext, ?_⟩
                replace H := H.new N7 N7.blk
                replace R0 := H.ext
                refine DW.sole rfl rfl rfl (OW.call Tc76 rfl (ref02_named_ok (a0 := a0.from_) (a1 := a1) (a2 := a2) hr3) ?_)
                rintro _ w24 ⟨rfl, E9⟩
                refine ⟨_, rfl, fun _ => E9, ModX.ext E9, ?_⟩
                replace H := H.grow E9
                replace R0 := H.ext
                refine DW.sole rfl rfl rfl (OW.call Tc76 rfl (ref02_named_ok (a0 := a0.to_) (a1 := a1) (a2 := a2) hr4) ?_)
                rintro _ w25 ⟨rfl, E10⟩
                refine ⟨_, rfl, fun _ => E10, ModX.ext E10, ?_⟩
                replace H := H.grow E10
                replace R0 := H.ext
                refine DW.fix rfl rfl rfl (fun _ EQ => RV.build (vs := [.int .i64 (a0.nodes - 1), .int .i64 r3, .int .i64 r4]) (cs := [.int .i64 (a0.nodes - 1), .int .i64 r3, .int .i64 r4, .slice none 0 0]) rfl (fun _ => by kernel_rfl)) ?_
                refine DW.sole rfl rfl rfl (OW.store Tk24 rfl rfl (H.blk 0 rfl) (off := 0) (vs := [.int .i64 (a0.nodes - 1), .int .i64 r3, .int .i64 r4, .slice none 0 0]) rfl rfl rfl rfl rfl fun w26 S8 => ?_)
                refine ⟨fun h => absurd h (by decide), S8.modx trivial, ?_⟩
                replace H : Hp w w26 [.blk b7 24 [.int .i64 (a0.nodes - 1), .int .i64 r3, .int .i64 r4, .slice none 0 0], .blk b1 24 [.int .i64 a0.nodes, .int .i64 a0.from_, .int .i64 a0.to_, .slice A_a0_drains a0.drains.length c_a0_drains], .blk b2 24 [.int .i64 0, .int .i64 0, .int .i64 0, .slice none 0 0]] := H.stored 0 rfl S8
                replace R0 := H.ext
                replace H := H.pick (L' := [.blk b1 24 [.int .i64 a0.nodes, .int .i64 a0.from_, .int .i64 a0.to_, .slice A_a0_drains a0.drains.length c_a0_drains], .blk b2 24 [.int .i64 0, .int .i64 0, .int .i64 0, .slice none 0 0], .blk b7 24 [.int .i64 (a0.nodes - 1), .int .i64 r3, .int .i64 r4, .slice none 0 0]]) [1, 2, 0] (by decide) rfl
                replace R0 := H.ext
                refine DW.nil (jK137 _ _ ⟨_, ?_, ⟨r3, r4, b7, F, rfl, H⟩⟩)
                exact ⟨rfl, rfl, rfl, rfl, rfl, rfl, trivial⟩
        ·
          intro K19 hK19 jK138
          by_cases hp6 : a1 = a2
          ·
            replace F := ite_y hp6 F
            have hq6 := dec_t hp6
            refine CW.region ?_
            refine LW.pure rfl rfl (RV.move rfl) ?_
            refine LW.pure rfl rfl (RV.move rfl) ?_
            refine LW.pure rfl rfl (RV.eqi rfl rfl) ?_
            refine LW.pure rfl rfl (RV.move rfl) ?_
            refine LW.noB rfl rfl rfl rfl (ne_beq (v := true) hq6 rfl) ?_
            refine LW.noB rfl rfl rfl rfl (ne_beq (v := true) hq6 rfl) ?_
            refine LW.noB rfl rfl rfl rfl (ne_beq (v := true) hq6 rfl) ?_
            refine LW.noB rfl rfl rfl rfl (ne_beq (v := true) hq6 rfl) ?_
            refine LW.noB rfl rfl rfl rfl (ne_beq (v := true) hq6 rfl) ?_
            refine LW.noU rfl rfl rfl rfl ?_
            refine LW.noU rfl rfl rfl rfl ?_
            refine LW.noU rfl rfl rfl rfl ?_
            refine LW.noU rfl rfl rfl rfl ?_
            refine LW.noB rfl rfl rfl rfl (ne_beq (v := true) hq6 rfl) ?_
            refine LW.pure rfl rfl (RV.pickTB rfl hq6 rfl) ?_
            refine LW.pure rfl rfl (RV.move rfl) ?_
            refine LW.noB rfl rfl rfl rfl (ne_beq (v := true) rfl rfl) ?_
            refine LW.noB rfl rfl rfl rfl (ne_beq (v := true) rfl rfl) ?_
            refine LW.noB rfl rfl rfl rfl (ne_beq (v := true) rfl rfl) ?_
            refine LW.noB rfl rfl rfl rfl (ne_beq (v := true) rfl rfl) ?_
            refine LW.noB rfl rfl rfl rfl (ne_beq (v := true) rfl rfl) ?_
            refine LW.noU rfl rfl rfl rfl ?_
            refine LW.noU rfl rfl rfl rfl ?_
            refine LW.noU rfl rfl rfl rfl ?_
            refine LW.noU rfl rfl rfl rfl ?_
            refine LW.noB rfl rfl rfl rfl (ne_beq (v := true) rfl rfl) ?_
            refine LW.pure rfl rfl (RV.pickTB rfl rfl rfl) ?_
            refine LW.nil (jK138 _ _ ⟨_, ?_, ⟨true, F, rfl, H⟩⟩)
            exact ⟨rfl, rfl, rfl, rfl, rfl, rfl, trivial⟩
          ·
            replace F := ite_n hp6 F
            have hq6 := dec_f hp6
            by_cases hp7 : a1 = a0.from_
            ·
              replace F := ite_y hp7 F
              have hq7 := dec_t hp7
              by_cases hp8 : a2 = a0.to_
              ·
                replace F := ite_y hp8 F
                have hq8 := dec_t hp8
                refine CW.region ?_
                refine LW.pure rfl rfl (RV.move rfl) ?_
                refine LW.pure rfl rfl (RV.move rfl) ?_
                refine LW.pure rfl rfl (RV.eqi rfl rfl) ?_
                refine LW.pure rfl rfl (RV.move rfl) ?_
                refine LW.pureYB rfl rfl rfl rfl hq6 (RV.move rfl) ?_
                refine LW.pureYB rfl rfl rfl rfl hq6 (RV.fieldAddr Tf24_1 rfl) ?_
                refine LW.pureYB rfl rfl rfl rfl hq6 (RV.load1 Tk3 rfl ((H.blk 0 rfl).cells.off 1) rfl) ?_
                refine LW.pureYB rfl rfl rfl rfl hq6 (RV.eqi rfl rfl) ?_
                refine LW.pureYB rfl rfl rfl rfl hq6 (RV.move rfl) ?_
                refine LW.pureYB rfl rfl rfl rfl hq7 (RV.move rfl) ?_
                refine LW.pureYB rfl rfl rfl rfl hq7 (RV.fieldAddr Tf24_2 rfl) ?_
                refine LW.pureYB rfl rfl rfl rfl hq7 (RV.load1 Tk3 rfl ((H.blk 0 rfl).cells.off 2) rfl) ?_
                refine LW.pureYB rfl rfl rfl rfl hq7 (RV.eqi rfl rfl) ?_
                refine LW.pureYB rfl rfl rfl rfl hq6 (RV.pickTB rfl hq7 rfl) ?_
                refine LW.pure rfl rfl (RV.pickFB rfl hq6 rfl) ?_
                refine LW.pure rfl rfl (RV.move rfl) ?_
                refine LW.noB rfl rfl rfl rfl (ne_beq (v := true) hq8 rfl) ?_
                refine LW.noB rfl rfl rfl rfl (ne_beq (v := true) hq8 rfl) ?_
                refine LW.noB rfl rfl rfl rfl (ne_beq (v := true) hq8 rfl) ?_
                refine LW.noB rfl rfl rfl rfl (ne_beq (v := true) hq8 rfl) ?_
                refine LW.noB rfl rfl rfl rfl (ne_beq (v := true) hq8 rfl) ?_
                refine LW.noU rfl rfl rfl rfl ?_
                refine LW.noU rfl rfl rfl rfl ?_
                refine LW.noU rfl rfl rfl rfl ?_
                refine LW.noU rfl rfl rfl rfl ?_
                refine LW.noB rfl rfl rfl rfl (ne_beq (v := true) hq8 rfl) ?_
                refine LW.pure rfl rfl (RV.pickTB rfl hq8 rfl) ?_
                refine LW.nil (jK138 _ _ ⟨_, ?_, ⟨true, F, rfl, H⟩⟩)
                exact ⟨rfl, rfl, rfl, rfl, rfl, rfl, trivial⟩
              ·
                replace F := ite_n hp8 F
                have hq8 := dec_f hp8
                by_cases hp9 : a1 = a0.to_
                ·
                  replace F := ite_y hp9 F
                  have hq9 := dec_t hp9
                  refine CW.region ?_
                  refine LW.pure rfl rfl (RV.move rfl) ?_
                  refine LW.pure rfl rfl (RV.move rfl) ?_
                  refine LW.pure rfl rfl (RV.eqi rfl rfl) ?_
                  refine LW.pure rfl rfl (RV.move rfl) ?_
                  refine LW.pureYB rfl rfl rfl rfl hq6 (RV.move rfl) ?_
                  refine LW.pureYB rfl rfl rfl rfl hq6 (RV.fieldAddr Tf24_1 rfl) ?_
                  refine LW.pureYB rfl rfl rfl rfl hq6 (RV.load1 Tk3 rfl ((H.blk 0 rfl).cells.off 1) rfl) ?_
                  refine LW.pureYB rfl rfl rfl rfl hq6 (RV.eqi rfl rfl) ?_
                  refine LW.pureYB rfl rfl rfl rfl hq6 (RV.move rfl) ?_
                  refine LW.pureYB rfl rfl rfl rfl hq7 (RV.move rfl) ?_
                  refine LW.pureYB rfl rfl rfl rfl hq7 (RV.fieldAddr Tf24_2 rfl) ?_
                  refine LW.pureYB rfl rfl rfl rfl hq7 (RV.load1 Tk3 rfl ((H.blk 0 rfl).cells.off 2) rfl) ?_
                  refine LW.pureYB rfl rfl rfl rfl hq7 (RV.eqi rfl rfl) ?_
                  refine LW.pureYB rfl rfl rfl rfl hq6 (RV.pickTB rfl hq7 rfl) ?_
                  refine LW.pure rfl rfl (RV.pickFB rfl hq6 rfl) ?_
                  refine LW.pure rfl rfl (RV.move rfl) ?_
                  refine LW.pureYB rfl rfl rfl rfl hq8 (RV.move rfl) ?_
                  refine LW.pureYB rfl rfl rfl rfl hq8 (RV.fieldAddr Tf24_2 rfl) ?_
                  refine LW.pureYB rfl rfl rfl rfl hq8 (RV.load1 Tk3 rfl ((H.blk 0 rfl).cells.off 2) rfl) ?_
                  refine LW.pureYB rfl rfl rfl rfl hq8 (RV.eqi rfl rfl) ?_
                  refine LW.pureYB rfl rfl rfl rfl hq8 (RV.move rfl) ?_
                  refine LW.pureYB rfl rfl rfl rfl hq9 (RV.move rfl) ?_
                  refine LW.pureYB rfl rfl rfl rfl hq9 (RV.fieldAddr Tf24_1 rfl) ?_
                  refine LW.pureYB rfl rfl rfl rfl hq9 (RV.load1 Tk3 rfl ((H.blk 0 rfl).cells.off 1) rfl) ?_
                  refine LW.pureYB rfl rfl rfl rfl hq9 (RV.eqi rfl rfl) ?_
                  refine LW.pureYB rfl rfl rfl rfl hq8 (RV.pickTB rfl hq9 rfl) ?_
                  refine LW.pure rfl rfl (RV.pickFB rfl hq8 rfl) ?_
                  refine LW.nil (jK138 _ _ ⟨_, ?_, ⟨(decide (a2 = a0.from_)), F, rfl, H⟩⟩)
                  exact ⟨rfl, rfl, rfl, rfl, rfl, rfl, trivial⟩
                ·
                  replace F := ite_n hp9 F
                  have hq9 := dec_f hp9
                  refine CW.region ?_
                  refine LW.pure rfl rfl (RV.move rfl) ?_
                  refine LW.pure rfl rfl (RV.move rfl) ?_
                  refine LW.pure rfl rfl (RV.eqi rfl rfl) ?_
                  refine LW.pure rfl rfl (RV.move rfl) ?_
                  refine LW.pureYB rfl rfl rfl rfl hq6 (RV.move rfl) ?_
                  refine LW.pureYB rfl rfl rfl rfl hq6 (RV.fieldAddr Tf24_1 rfl) ?_
                  refine LW.pureYB rfl rfl rfl rfl hq6 (RV.load1 Tk3 rfl ((H.blk 0 rfl).cells.off 1) rfl) ?_
                  refine LW.pureYB rfl rfl rfl rfl hq6 (RV.eqi rfl rfl) ?_
                  refine LW.pureYB rfl rfl rfl rfl hq6 (RV.move rfl) ?_
                  refine LW.pureYB rfl rfl rfl rfl hq7 (RV.move rfl) ?_
                  refine LW.pureYB rfl rfl rfl rfl hq7 (RV.fieldAddr Tf24_2 rfl) ?_
                  refine LW.pureYB rfl rfl rfl rfl hq7 (RV.load1 Tk3 rfl ((H.blk 0 rfl).cells.off 2) rfl) ?_
                  refine LW.pureYB rfl rfl rfl rfl hq7 (RV.eqi rfl rfl) ?_
                  refine LW.pureYB rfl rfl rfl rfl hq6 (RV.pickTB rfl hq7 rfl) ?_
                  refine LW.pure rfl rfl (RV.pickFB rfl hq6 rfl) ?_
                  refine LW.pure rfl rfl (RV.move rfl) ?_
                  refine LW.pureYB rfl rfl rfl rfl hq8 (RV.move rfl) ?_
                  refine LW.pureYB rfl rfl rfl rfl hq8 (RV.fieldAddr Tf24_2 rfl) ?_
                  refine LW.pureYB rfl rfl rfl rfl hq8 (RV.load1 Tk3 rfl ((H.blk 0 rfl).cells.off 2) rfl) ?_
                  refine LW.pureYB rfl rfl rfl rfl hq8 (RV.eqi rfl rfl) ?_
                  refine LW.pureYB rfl rfl rfl rfl hq8 (RV.move rfl) ?_
                  refine LW.noB rfl rfl rfl rfl (ne_beq (v := false) hq9 rfl) ?_
                  refine LW.noB rfl rfl rfl rfl (ne_beq (v := false) hq9 rfl) ?_
                  refine LW.noB rfl rfl rfl rfl (ne_beq (v := false) hq9 rfl) ?_
                  refine LW.noB rfl rfl rfl rfl (ne_beq (v := false) hq9 rfl) ?_
                  refine LW.pureYB rfl rfl rfl rfl hq8 (RV.pickFB rfl hq9 rfl) ?_
                  refine LW.pure rfl rfl (RV.pickFB rfl hq8 rfl) ?_
                  refine LW.nil (jK138 _ _ ⟨_, ?_, ⟨false, F, rfl, H⟩⟩)
                  exact ⟨rfl, rfl, rfl, rfl, rfl, rfl, trivial⟩
            ·
              replace F := ite_n hp7 F
              have hq7 := dec_f hp7
              by_cases hp10 : a1 = a0.to_
              ·
                replace F := ite_y hp10 F
                have hq10 := dec_t hp10
                refine CW.region ?_
                refine LW.pure rfl rfl (RV.move rfl) ?_
                refine LW.pure rfl rfl (RV.move rfl) ?_
                refine LW.pure rfl rfl (RV.eqi rfl rfl) ?_
                refine LW.pure rfl rfl (RV.move rfl) ?_
                refine LW.pureYB rfl rfl rfl rfl hq6 (RV.move rfl) ?_
                refine LW.pureYB rfl rfl rfl rfl hq6 (RV.fieldAddr Tf24_1 rfl) ?_
                refine LW.pureYB rfl rfl rfl rfl hq6 (RV.load1 Tk3 rfl ((H.blk 0 rfl).cells.off 1) rfl) ?_
                refine LW.pureYB rfl rfl rfl rfl hq6 (RV.eqi rfl rfl) ?_
                refine LW.pureYB rfl rfl rfl rfl hq6 (RV.move rfl) ?_
                refine LW.noB rfl rfl rfl rfl (ne_beq (v := false) hq7 rfl) ?_
                refine LW.noB rfl rfl rfl rfl (ne_beq (v := false) hq7 rfl) ?_
                refine LW.noB rfl rfl rfl rfl (ne_beq (v := false) hq7 rfl) ?_
                refine LW.noB rfl rfl rfl rfl (ne_beq (v := false) hq7 rfl) ?_
                refine LW.pureYB rfl rfl rfl rfl hq6 (RV.pickFB rfl hq7 rfl) ?_
                refine LW.pure rfl rfl (RV.pickFB rfl hq6 rfl) ?_
                refine LW.pure rfl rfl (RV.move rfl) ?_
                refine LW.pureYB rfl rfl rfl rfl rfl (RV.move rfl) ?_
                refine LW.pureYB rfl rfl rfl rfl rfl (RV.fieldAddr Tf24_2 rfl) ?_
                refine LW.pureYB rfl rfl rfl rfl rfl (RV.load1 Tk3 rfl ((H.blk 0 rfl).cells.off 2) rfl) ?_
                refine LW.pureYB rfl rfl rfl rfl rfl (RV.eqi rfl rfl) ?_
                refine LW.pureYB rfl rfl rfl rfl rfl (RV.move rfl) ?_
                refine LW.pureYB rfl rfl rfl rfl hq10 (RV.move rfl) ?_
                refine LW.pureYB rfl rfl rfl rfl hq10 (RV.fieldAddr Tf24_1 rfl) ?_
                refine LW.pureYB rfl rfl rfl rfl hq10 (RV.load1 Tk3 rfl ((H.blk 0 rfl).cells.off 1) rfl) ?_
                refine LW.pureYB rfl rfl rfl rfl hq10 (RV.eqi rfl rfl) ?_
                refine LW.pureYB rfl rfl rfl rfl rfl (RV.pickTB rfl hq10 rfl) ?_
                refine LW.pure rfl rfl (RV.pickFB rfl rfl rfl) ?_
                refine LW.nil (jK138 _ _ ⟨_, ?_, ⟨(decide (a2 = a0.from_)), F, rfl, H⟩⟩)
                exact ⟨rfl, rfl, rfl, rfl, rfl, rfl, trivial⟩
              ·
                replace F := ite_n hp10 F
                have hq10 := dec_f hp10
                refine CW.region ?_
                refine LW.pure rfl rfl (RV.move rfl) ?_
                refine LW.pure rfl rfl (RV.move rfl) ?_
                refine LW.pure rfl rfl (RV.eqi rfl rfl) ?_
                refine LW.pure rfl rfl (RV.move rfl) ?_
                refine LW.pureYB rfl rfl rfl rfl hq6 (RV.move rfl) ?_
                refine LW.pureYB rfl rfl rfl rfl hq6 (RV.fieldAddr Tf24_1 rfl) ?_
                refine LW.pureYB rfl rfl rfl rfl hq6 (RV.load1 Tk3 rfl ((H.blk 0 rfl).cells.off 1) rfl) ?_
                refine LW.pureYB rfl rfl rfl rfl hq6 (RV.eqi rfl rfl) ?_
                refine LW.pureYB rfl rfl rfl rfl hq6 (RV.move rfl) ?_
                refine LW.noB rfl rfl rfl rfl (ne_beq (v := false) hq7 rfl) ?_
                refine LW.noB rfl rfl rfl rfl (ne_beq (v := false) hq7 rfl) ?_
                refine LW.noB rfl rfl rfl rfl (ne_beq (v := false) hq7 rfl) ?_
                refine LW.noB rfl rfl rfl rfl (ne_beq (v := false) hq7 rfl) ?_
                refine LW.pureYB rfl rfl rfl rfl hq6 (RV.pickFB rfl hq7 rfl) ?_
                refine LW.pure rfl rfl (RV.pickFB rfl hq6 rfl) ?_
                refine LW.pure rfl rfl (RV.move rfl) ?_
                refine LW.pureYB rfl rfl rfl rfl rfl (RV.move rfl) ?_
                refine LW.pureYB rfl rfl rfl rfl rfl (RV.fieldAddr Tf24_2 rfl) ?_
                refine LW.pureYB rfl rfl rfl rfl rfl (RV.load1 Tk3 rfl ((H.blk 0 rfl).cells.off 2) rfl) ?_
                refine LW.pureYB rfl rfl rfl rfl rfl (RV.eqi rfl rfl) ?_
                refine LW.pureYB rfl rfl rfl rfl rfl (RV.move rfl) ?_
                refine LW.noB rfl rfl rfl rfl (ne_beq (v := false) hq10 rfl) ?_
                refine LW.noB rfl rfl rfl rfl (ne_beq (v := false) hq10 rfl) ?_
                refine LW.noB rfl rfl rfl rfl (ne_beq (v := false) hq10 rfl) ?_
                refine LW.noB rfl rfl rfl rfl (ne_beq (v := false) hq10 rfl) ?_
                refine LW.pureYB rfl rfl rfl rfl rfl (RV.pickFB rfl hq10 rfl) ?_
                refine LW.pure rfl rfl (RV.pickFB rfl rfl rfl) ?_
                refine LW.nil (jK138 _ _ ⟨_, ?_, ⟨false, F, rfl, H⟩⟩)
                exact ⟨rfl, rfl, rfl, rfl, rfl, rfl, trivial⟩
    ·
      intro K20 hK20 jK139
      obtain ⟨hg4, F⟩ := gd_some F
      obtain ⟨r6, hr6, F⟩ := bnd_some F
      by_cases hp11 : r6 = true
      ·
        replace F := ite_y hp11 F
        have hq11 : r6 = true := hp11
        obtain ⟨hg5, F⟩ := gd_some F
        obtain ⟨r7, hr7, F⟩ := bnd_some F
        refine CW.region ?_
        refine LW.pure rfl rfl (RV.move rfl) ?_
        refine LW.pure rfl rfl (RV.fieldAddr Tf24_0 rfl) ?_
        refine LW.pure rfl rfl (RV.load1 Tk3 rfl ((H.blk 1 rfl).cells.off 0) rfl) ?_
        refine LW.pure rfl rfl (RV.sub rfl rfl hg4) ?_
        refine LW.go rfl rfl (OW.call Tc60 rfl (ref02_within_ok (a0 := a1) (a1 := (0 : Int)) (a2 := a0.nodes - 1) hr6) ?_)
        rintro _ w27 ⟨rfl, E11⟩
        refine ⟨_, rfl, ?_⟩
        replace H := H.grow E11
        replace R0 := H.ext
        refine LW.pure rfl rfl (RV.not rfl) ?_
        refine LW.pure rfl rfl (RV.move rfl) ?_
        refine LW.pureYB rfl rfl rfl rfl (not_f hq11) (RV.move rfl) ?_
        refine LW.pureYB rfl rfl rfl rfl (not_f hq11) (RV.fieldAddr Tf24_0 rfl) ?_
        refine LW.pureYB rfl rfl rfl rfl (not_f hq11) (RV.load1 Tk3 rfl ((H.blk 1 rfl).cells.off 0) rfl) ?_
        refine LW.pureYB rfl rfl rfl rfl (not_f hq11) (RV.sub rfl rfl hg5) ?_
        refine LW.yesB rfl rfl rfl rfl (not_f hq11) (OW.call Tc60 rfl (ref02_within_ok (a0 := a2) (a1 := (0 : Int)) (a2 := a0.nodes - 1) hr7) ?_)
        rintro _ w28 ⟨rfl, E12⟩
        refine ⟨_, rfl, ?_⟩
        replace H := H.grow E12
        replace R0 := H.ext
        refine LW.pureYB rfl rfl rfl rfl (not_f hq11) (RV.not rfl) ?_
        refine LW.pure rfl rfl (RV.pickFB rfl (not_f hq11) rfl) ?_
        replace H := H.pick (L' := [.blk b1 24 [.int .i64 a0.nodes, .int .i64 a0.from_, .int .i64 a0.to_, .slice A_a0_drains a0.drains.length c_a0_drains], .blk b2 24 [.int .i64 0, .int .i64 0, .int .i64 0, .slice none 0 0]]) [1, 0] (by decide) rfl
        replace R0 := H.ext
        refine LW.nil (jK139 _ _ ⟨_, ?_, ⟨(!r7), F, rfl, H⟩⟩)
        exact ⟨rfl, rfl, rfl, rfl, rfl, rfl, trivial⟩
      ·
        replace F := ite_n hp11 F
        have hq11 : r6 = false := raw_f hp11
        refine CW.region ?_
        refine LW.pure rfl rfl (RV.move rfl) ?_
        refine LW.pure rfl rfl (RV.fieldAddr Tf24_0 rfl) ?_
        refine LW.pure rfl rfl (RV.load1 Tk3 rfl ((H.blk 1 rfl).cells.off 0) rfl) ?_
        refine LW.pure rfl rfl (RV.sub rfl rfl hg4) ?_
        refine LW.go rfl rfl (OW.call Tc60 rfl (ref02_within_ok (a0 := a1) (a1 := (0 : Int)) (a2 := a0.nodes - 1) hr6) ?_)
        rintro _ w29 ⟨rfl, E13⟩
        refine ⟨_, rfl, ?_⟩
        replace H := H.grow E13
        replace R0 := H.ext
        refine LW.pure rfl rfl (RV.not rfl) ?_
        refine LW.pure rfl rfl (RV.move rfl) ?_
        refine LW.noB rfl rfl rfl rfl (ne_beq (v := true) (not_t hq11) rfl) ?_
        refine LW.noB rfl rfl rfl rfl (ne_beq (v := true) (not_t hq11) rfl) ?_
        refine LW.noB rfl rfl rfl rfl (ne_beq (v := true) (not_t hq11) rfl) ?_
        refine LW.noB rfl rfl rfl rfl (ne_beq (v := true) (not_t hq11) rfl) ?_
        refine LW.noB rfl rfl rfl rfl (ne_beq (v := true) (not_t hq11) rfl) ?_
        refine LW.noB rfl rfl rfl rfl (ne_beq (v := true) (not_t hq11) rfl) ?_
        refine LW.pure rfl rfl (RV.pickTB rfl (not_t hq11) rfl) ?_
        replace H := H.pick (L' := [.blk b1 24 [.int .i64 a0.nodes, .int .i64 a0.from_, .int .i64 a0.to_, .slice A_a0_drains a0.drains.length c_a0_drains], .blk b2 24 [.int .i64 0, .int .i64 0, .int .i64 0, .slice none 0 0]]) [1, 0] (by decide) rfl
        replace R0 := H.ext
        refine LW.nil (jK139 _ _ ⟨_, ?_, ⟨true, F, rfl, H⟩⟩)
        exact ⟨rfl, rfl, rfl, rfl, rfl, rfl, trivial⟩
  ·
    replace F := ite_n hp1 F
    have hq1 := dec_f hp1
    refine CW.condT rfl (not_t hq1) ?_
    refine CW.seq fun K21 hK21 => ?_
    refine CW.region ?_
    refine LW.pure rfl rfl (RV.build (vs := []) (cs := [.int .i64 0, .int .i64 0, .int .i64 0, .slice none 0 0]) rfl (fun _ => by kernel_rfl)) ?_
    refine LW.pure rfl rfl (RV.move rfl) ?_
    refine LW.go rfl rfl (OW.store Tk24 rfl rfl (H.blk 0 rfl) (off := 0) (vs := [.int .i64 0, .int .i64 0, .int .i64 0, .slice none 0 0]) rfl rfl rfl rfl rfl fun w30 S9 => ?_)
    replace H : Hp w w30 [.blk b2 24 [.int .i64 0, .int .i64 0, .int .i64 0, .slice none 0 0], .blk b1 24 [.int .i64 a0.nodes, .int .i64 a0.from_, .int .i64 a0.to_, .slice A_a0_drains a0.drains.length c_a0_drains]] := H.stored 0 rfl S9
    replace R0 := H.ext
    refine LW.pure rfl rfl (RV.assign rfl) ?_
    refine LW.nil (hK21 _ _ ?_)
    refine CW.ret ?_
    obtain rfl := Option.some.inj F
    refine ⟨_, (ResOK.two ⟨_, rfl, run_loadVar_agg Tk24 (H.blk 0 rfl).cells (us := [.int .i64 0, .int .i64 0, .int .i64 0, .slice none 0 0]) rfl rfl⟩ rfl), ?_⟩
    replace H := H.nilOwn 52 3
    replace R0 := H.ext
    replace H := H.pick (L' := [.own none 0 52 3 (List.map encDrain (([] : List Drain)))]) [0] (by decide) rfl
    replace R0 := H.ext
    exact ⟨none, 0, (by first | rfl | (simp; done) | (simp; omega)), H⟩
end Go.D2

set_option linter.unusedVariables false
set_option linter.unusedSimpArgs false
namespace Go.D2
open Go.Tb Go.Proofs Go.RowKit
theorem Tc35 : callable Try.prog 35 = true := by kernel_rfl
theorem Tc36 : callable Try.prog 36 = true := by kernel_rfl
theorem Tf42_0 : tyF Try.prog 42 0 = some 0 := by kernel_rfl
theorem Tf42_1 : tyF Try.prog 42 1 = some 1 := by kernel_rfl
set_option maxRecDepth 20000 in
set_option maxHeartbeats 1000000 in
theorem law02_DrainJoins_ok {a0 : Net} {a1 : Two} {A_a0_drains : Option Addr} {c_a0_drains : Nat} {w : World} {res : Bool} (h_a0_drains : Sl w A_a0_drains c_a0_drains 3 (a0.drains.map encDrain)) (F : law02_DrainJoins a0 a1 = some res) : Calls Try.prog 8 #[.agg #[.int .i64 a0.nodes, .int .i64 a0.from_, .int .i64 a0.to_, .slice A_a0_drains a0.drains.length c_a0_drains], .agg #[.int .i64 a1.i, .int .i64 a1.j]] w (Rt w (.bool res)) := by
  refine calls_of_cw (args := [.agg #[.int .i64 a0.nodes, .int .i64 a0.from_, .int .i64 a0.to_, .slice A_a0_drains a0.drains.length c_a0_drains], .agg #[.int .i64 a1.i, .int .i64 a1.j]]) Try.func8 rfl rfl rfl rfl ?_
  have H := Hp.start w
  have R0 := H.ext
  unfold law02_DrainJoins at F
  refine CW.seq fun K1 hK1 => ?_
  refine CW.region ?_
  refine LW.go rfl rfl (OW.box rfl fun b1 w1 N1 => ?_)
  replace H := H.new N1 N1.blk
  replace R0 := H.ext
  refine LW.go rfl rfl (OW.box rfl fun b2 w2 N2 => ?_)
  replace H := H.new N2 N2.blk
  replace R0 := H.ext
  refine LW.pure rfl rfl (RV.assign rfl) ?_
  refine LW.nil (hK1 _ _ ?_)
  refine CW.seq fun K2 hK2 => ?_
  refine CW.seq fun K3 hK3 => ?_
  obtain ⟨r6, hr6, F⟩ := bnd_some F
  refine CW.region ?_
  refine LW.pure rfl rfl (RV.loadA [.int .i64 a0.nodes, .int .i64 a0.from_, .int .i64 a0.to_, .slice A_a0_drains a0.drains.length c_a0_drains] Tk24 rfl (H.blk 1 rfl).cells rfl rfl) ?_
  refine LW.go rfl rfl (OW.call Tc16 rfl (law02_Long_ok (a0 := a0) (h_a0_drains.ext R0) hr6) ?_)
  rintro _ w3 ⟨rfl, E1⟩
  refine ⟨_, rfl, ?_⟩
  replace H := H.grow E1
  replace R0 := H.ext
  refine LW.nil (hK3 _ _ ?_)
  by_cases hp1 : r6 = true
  ·
    replace F := ite_y hp1 F
    have hq1 : r6 = true := hp1
    refine CW.condT rfl hq1 ?_
    refine CW.seq fun K4 hK4 => ?_
    obtain ⟨r7, hr7, F⟩ := bnd_some F
    refine CW.region ?_
    refine LW.go rfl rfl (OW.call Tc17 rfl (law02_known_ok hr7) ?_)
    rintro _ w4 ⟨rfl, E2⟩
    refine ⟨_, rfl, ?_⟩
    replace H := H.grow E2
    replace R0 := H.ext
    refine LW.pure rfl rfl (RV.assign rfl) ?_
    refine LW.nil (hK4 _ _ ?_)
    refine CW.ret ?_
    obtain rfl := Option.some.inj F
    refine ⟨_, (ResOK.one rfl), ?_⟩
    refine ⟨(by first | rfl | simp), R0⟩
  ·
    replace F := ite_n hp1 F
    have hq1 : r6 = false := raw_f hp1
    refine CW.condF rfl hq1 ?_
    refine CW.skip (hK2 _ _ ?_)
    refine CW.seq fun K5 hK5 => ?_
    obtain ⟨r1, hr1, F⟩ := bnd_some F
    refine CW.region ?_
    refine LW.pure rfl rfl (RV.loadA [.int .i64 a0.nodes, .int .i64 a0.from_, .int .i64 a0.to_, .slice A_a0_drains a0.drains.length c_a0_drains] Tk24 rfl (H.blk 1 rfl).cells rfl rfl) ?_
    refine LW.pure rfl rfl (RV.fieldAddr Tf42_0 rfl) ?_
    refine LW.pure rfl rfl (RV.load1 Tk3 rfl ((H.blk 0 rfl).cells.off 0) rfl) ?_
    refine LW.pure rfl rfl (RV.fieldAddr Tf42_1 rfl) ?_
    refine LW.pure rfl rfl (RV.load1 Tk3 rfl ((H.blk 0 rfl).cells.off 1) rfl) ?_
    refine LW.go rfl rfl (OW.call Tc35 rfl (drain_Join_ok (a0 := a0) (a1 := a1.i) (a2 := a1.j) (h_a0_drains.ext R0) hr1) ?_)
    rintro _ w5 ⟨A16_0_drains, c16_0_drains, rfl, E3⟩
    refine ⟨_, rfl, ?_⟩
    replace H : Hp w w5 [.own A16_0_drains c16_0_drains 52 3 (List.map encDrain r1.1.drains), .blk b2 42 [.int .i64 a1.i, .int .i64 a1.j], .blk b1 24 [.int .i64 a0.nodes, .int .i64 a0.from_, .int .i64 a0.to_, .slice A_a0_drains a0.drains.length c_a0_drains]] := H.append E3
    replace R0 := H.ext
    refine LW.pure rfl rfl (RV.move rfl) ?_
    refine LW.pure rfl rfl (RV.extract rfl rfl) ?_
    refine LW.pure rfl rfl (RV.extract rfl rfl) ?_
    refine LW.go rfl rfl (OW.alloc Tz24 fun b3 w6 N3 => ?_)
    replace H := H.new N3 N3.blk
    replace R0 := H.ext
    refine LW.go rfl rfl (OW.store Tk24 rfl rfl (H.blk 0 rfl) (off := 0) (vs := [.int .i64 r1.1.nodes, .int .i64 r1.1.from_, .int .i64 r1.1.to_, .slice A16_0_drains r1.1.drains.length c16_0_drains]) rfl rfl rfl rfl rfl fun w7 S1 => ?_)
    replace H : Hp w w7 [.blk b3 24 [.int .i64 r1.1.nodes, .int .i64 r1.1.from_, .int .i64 r1.1.to_, .slice A16_0_drains r1.1.drains.length c16_0_drains], .own A16_0_drains c16_0_drains 52 3 (List.map encDrain r1.1.drains), .blk b2 42 [.int .i64 a1.i, .int .i64 a1.j], .blk b1 24 [.int .i64 a0.nodes, .int .i64 a0.from_, .int .i64 a0.to_, .slice A_a0_drains a0.drains.length c_a0_drains]] := H.stored 0 rfl S1
    replace R0 := H.ext
    refine LW.pure rfl rfl (RV.assign rfl) ?_
    refine LW.nil (hK5 _ _ ?_)
    refine CW.seq fun K6 hK6 => ?_
    obtain ⟨r8, hr8, F⟩ := bnd_some F
    refine CW.region ?_
    refine LW.pure rfl rfl (RV.loadA [.int .i64 a0.nodes, .int .i64 a0.from_, .int .i64 a0.to_, .slice A_a0_drains a0.drains.length c_a0_drains] Tk24 rfl (H.blk 3 rfl).cells rfl rfl) ?_
    refine LW.pure rfl rfl (RV.fieldAddr Tf42_0 rfl) ?_
    refine LW.pure rfl rfl (RV.load1 Tk3 rfl ((H.blk 2 rfl).cells.off 0) rfl) ?_
    refine LW.pure rfl rfl (RV.fieldAddr Tf42_1 rfl) ?_
    refine LW.pure rfl rfl (RV.load1 Tk3 rfl ((H.blk 2 rfl).cells.off 1) rfl) ?_
    refine LW.go rfl rfl (OW.call Tc36 rfl (ref02_Join_ok (a0 := a0) (a1 := a1.i) (a2 := a1.j) (h_a0_drains.ext R0) hr8) ?_)
    rintro _ w8 ⟨A18_0_drains, c18_0_drains, rfl, E4⟩
    refine ⟨_, rfl, ?_⟩
    replace H : Hp w w8 [.own A18_0_drains c18_0_drains 52 3 (List.map encDrain r8.1.drains), .blk b3 24 [.int .i64 r1.1.nodes, .int .i64 r1.1.from_, .int .i64 r1.1.to_, .slice A16_0_drains r1.1.drains.length c16_0_drains], .own A16_0_drains c16_0_drains 52 3 (List.map encDrain r1.1.drains), .blk b2 42 [.int .i64 a1.i, .int .i64 a1.j], .blk b1 24 [.int .i64 a0.nodes, .int .i64 a0.from_, .int .i64 a0.to_, .slice A_a0_drains a0.drains.length c_a0_drains]] := H.append E4
    replace R0 := H.ext
    refine LW.pure rfl rfl (RV.move rfl) ?_
    refine LW.pure rfl rfl (RV.extract rfl rfl) ?_
    refine LW.pure rfl rfl (RV.extract rfl rfl) ?_
    refine LW.go rfl rfl (OW.alloc Tz24 fun b4 w9 N4 => ?_)
    replace H := H.new N4 N4.blk
    replace R0 := H.ext
    refine LW.go rfl rfl (OW.store Tk24 rfl rfl (H.blk 0 rfl) (off := 0) (vs := [.int .i64 r8.1.nodes, .int .i64 r8.1.from_, .int .i64 r8.1.to_, .slice A18_0_drains r8.1.drains.length c18_0_drains]) rfl rfl rfl rfl rfl fun w10 S2 => ?_)
    replace H : Hp w w10 [.blk b4 24 [.int .i64 r8.1.nodes, .int .i64 r8.1.from_, .int .i64 r8.1.to_, .slice A18_0_drains r8.1.drains.length c18_0_drains], .own A18_0_drains c18_0_drains 52 3 (List.map encDrain r8.1.drains), .blk b3 24 [.int .i64 r1.1.nodes, .int .i64 r1.1.from_, .int .i64 r1.1.to_, .slice A16_0_drains r1.1.drains.length c16_0_drains], .own A16_0_drains c16_0_drains 52 3 (List.map encDrain r1.1.drains), .blk b2 42 [.int .i64 a1.i, .int .i64 a1.j], .blk b1 24 [.int .i64 a0.nodes, .int .i64 a0.from_, .int .i64 a0.to_, .slice A_a0_drains a0.drains.length c_a0_drains]] := H.stored 0 rfl S2
    replace R0 := H.ext
    refine LW.pure rfl rfl (RV.assign rfl) ?_
    refine LW.nil (hK6 _ _ ?_)
    refine CW.seq fun K7 hK7 => ?_
    refine CW.seqJ (fun ρ wl1 => (∃ (t42_1 : Bool), law02_DrainJoins_k1 a0 r1 t42_1 = some res ∧ ρ = [(2, .pointer (some (⟨b1, 0, none⟩))), (4, .bool false), (5, .pointer (some (⟨b3, 0, none⟩))), (6, .int .i64 r1.2), (42, .bool t42_1)] ∧ Hp w wl1 [.own A16_0_drains c16_0_drains 52 3 (List.map encDrain r1.1.drains), .blk b1 24 [.int .i64 a0.nodes, .int .i64 a0.from_, .int .i64 a0.to_, .slice A_a0_drains a0.drains.length c_a0_drains], .blk b3 24 [.int .i64 r1.1.nodes, .int .i64 r1.1.from_, .int .i64 r1.1.to_, .slice A16_0_drains r1.1.drains.length c16_0_drains]])) ?_ ?_
    ·
      rintro _ wl1 ⟨t42_1, F, rfl, H⟩
      have R0 := H.ext
      unfold law02_DrainJoins_k1 at F
      by_cases hp2 : t42_1 = true
      ·
        replace F := ite_y hp2 F
        have hq2 : t42_1 = true := hp2
        refine CW.condT rfl hq2 ?_
        refine CW.seq fun K8 hK8 => ?_
        refine CW.region ?_
        refine LW.pure rfl rfl (RV.assign rfl) ?_
        refine LW.nil (hK8 _ _ ?_)
        refine CW.ret ?_
        obtain rfl := Option.some.inj F
        refine ⟨_, (ResOK.one rfl), ?_⟩
        refine ⟨(by first | rfl | simp), R0⟩
      ·
        replace F := ite_n hp2 F
        have hq2 : t42_1 = false := raw_f hp2
        refine CW.condF rfl hq2 ?_
        refine CW.skip (hK7 _ _ ?_)
        refine CW.seq fun K9 hK9 => ?_
        obtain ⟨r2, hr2, F⟩ := bnd_some F
        refine CW.region ?_
        refine LW.pure rfl rfl (RV.loadA [.int .i64 a0.nodes, .int .i64 a0.from_, .int .i64 a0.to_, .slice A_a0_drains a0.drains.length c_a0_drains] Tk24 rfl (H.blk 1 rfl).cells rfl rfl) ?_
        refine LW.go rfl rfl (OW.call Tc18 rfl (drain_Most_ok (a0 := a0) (h_a0_drains.ext R0) hr2) ?_)
        rintro _ w11 ⟨rfl, E5⟩
        refine ⟨_, rfl, ?_⟩
        replace H := H.grow E5
        replace R0 := H.ext
        refine LW.pure rfl rfl (RV.move rfl) ?_
        refine LW.pure rfl rfl (RV.extract rfl rfl) ?_
        refine LW.pure rfl rfl (RV.extract rfl rfl) ?_
        refine LW.pure rfl rfl (RV.assign rfl) ?_
        refine LW.pure rfl rfl (RV.assign rfl) ?_
        refine LW.nil (hK9 _ _ ?_)
        refine CW.seq fun K10 hK10 => ?_
        obtain ⟨r3, hr3, F⟩ := bnd_some F
        refine CW.region ?_
        refine LW.pure rfl rfl (RV.loadA [.int .i64 r1.1.nodes, .int .i64 r1.1.from_, .int .i64 r1.1.to_, .slice A16_0_drains r1.1.drains.length c16_0_drains] Tk24 rfl (H.blk 2 rfl).cells rfl rfl) ?_
        refine LW.go rfl rfl (OW.call Tc18 rfl (drain_Most_ok (a0 := r1.1) (H.own 0 rfl).sl hr3) ?_)
        rintro _ w12 ⟨rfl, E6⟩
        refine ⟨_, rfl, ?_⟩
        replace H := H.grow E6
        replace R0 := H.ext
        refine LW.pure rfl rfl (RV.move rfl) ?_
        refine LW.pure rfl rfl (RV.extract rfl rfl) ?_
        refine LW.pure rfl rfl (RV.extract rfl rfl) ?_
        refine LW.pure rfl rfl (RV.assign rfl) ?_
        refine LW.pure rfl rfl (RV.assign rfl) ?_
        refine LW.nil (hK10 _ _ ?_)
        refine CW.seq fun K11 hK11 => ?_
        by_cases hp3 : r1.2 = 0
        ·
          replace F := ite_y hp3 F
          have hq3 := dec_t hp3
          by_cases hp4 : r2.2 = 0
          ·
            replace F := ite_y hp4 F
            have hq4 := dec_t hp4
            by_cases hp5 : r3.2 = 0
            ·
              replace F := ite_y hp5 F
              have hq5 := dec_t hp5
              by_cases hp6 : r2.1 ≤ r3.1
              ·
                replace F := ite_y hp6 F
                have hq6 := dec_t hp6
                obtain ⟨r4, hr4, F⟩ := bnd_some F
                refine CW.region ?_
                refine LW.pure rfl rfl (RV.move rfl) ?_
                refine LW.pure rfl rfl (RV.nei rfl rfl) ?_
                refine LW.pure rfl rfl (RV.move rfl) ?_
                refine LW.pureYB rfl rfl rfl rfl (not_f hq3) (RV.move rfl) ?_
                refine LW.pureYB rfl rfl rfl rfl (not_f hq3) (RV.eqi rfl rfl) ?_
                refine LW.pureYB rfl rfl rfl rfl (not_f hq3) (RV.move rfl) ?_
                refine LW.pureYB rfl rfl rfl rfl hq4 (RV.move rfl) ?_
                refine LW.pureYB rfl rfl rfl rfl hq4 (RV.eqi rfl rfl) ?_
                refine LW.pureYB rfl rfl rfl rfl (not_f hq3) (RV.pickTB rfl hq4 rfl) ?_
                refine LW.pureYB rfl rfl rfl rfl (not_f hq3) (RV.move rfl) ?_
                refine LW.pureYB rfl rfl rfl rfl hq5 (RV.move rfl) ?_
                refine LW.pureYB rfl rfl rfl rfl hq5 (RV.move rfl) ?_
                refine LW.pureYB rfl rfl rfl rfl hq5 (RV.geq rfl rfl) ?_
                refine LW.pureYB rfl rfl rfl rfl (not_f hq3) (RV.pickTB rfl hq5 rfl) ?_
                refine LW.pure rfl rfl (RV.pickFB rfl (not_f hq3) rfl) ?_
                refine LW.pure rfl rfl (RV.move rfl) ?_
                refine LW.yesB rfl rfl rfl rfl hq6 (OW.call Tc17 rfl (law02_known_ok hr4) ?_)
                rintro _ w13 ⟨rfl, E7⟩
                refine ⟨_, rfl, ?_⟩
                replace H := H.grow E7
                replace R0 := H.ext
                refine LW.pure rfl rfl (RV.pickTB rfl hq6 rfl) ?_
                refine LW.pure rfl rfl (RV.assign rfl) ?_
                refine LW.nil (hK11 _ _ ?_)
                refine CW.ret ?_
                obtain rfl := Option.some.inj F
                refine ⟨_, (ResOK.one rfl), ?_⟩
                refine ⟨(by first | rfl | simp), R0⟩
              ·
                replace F := ite_n hp6 F
                have hq6 := dec_f hp6
                refine CW.region ?_
                refine LW.pure rfl rfl (RV.move rfl) ?_
                refine LW.pure rfl rfl (RV.nei rfl rfl) ?_
                refine LW.pure rfl rfl (RV.move rfl) ?_
                refine LW.pureYB rfl rfl rfl rfl (not_f hq3) (RV.move rfl) ?_
                refine LW.pureYB rfl rfl rfl rfl (not_f hq3) (RV.eqi rfl rfl) ?_
                refine LW.pureYB rfl rfl rfl rfl (not_f hq3) (RV.move rfl) ?_
                refine LW.pureYB rfl rfl rfl rfl hq4 (RV.move rfl) ?_
                refine LW.pureYB rfl rfl rfl rfl hq4 (RV.eqi rfl rfl) ?_
                refine LW.pureYB rfl rfl rfl rfl (not_f hq3) (RV.pickTB rfl hq4 rfl) ?_
                refine LW.pureYB rfl rfl rfl rfl (not_f hq3) (RV.move rfl) ?_
                refine LW.pureYB rfl rfl rfl rfl hq5 (RV.move rfl) ?_
                refine LW.pureYB rfl rfl rfl rfl hq5 (RV.move rfl) ?_
                refine LW.pureYB rfl rfl rfl rfl hq5 (RV.geq rfl rfl) ?_
                refine LW.pureYB rfl rfl rfl rfl (not_f hq3) (RV.pickTB rfl hq5 rfl) ?_
                refine LW.pure rfl rfl (RV.pickFB rfl (not_f hq3) rfl) ?_
                refine LW.pure rfl rfl (RV.move rfl) ?_
                refine LW.noB rfl rfl rfl rfl (ne_beq (v := false) hq6 rfl) ?_
                refine LW.pure rfl rfl (RV.pickFB rfl hq6 rfl) ?_
                refine LW.pure rfl rfl (RV.assign rfl) ?_
                refine LW.nil (hK11 _ _ ?_)
                refine CW.ret ?_
                obtain rfl := Option.some.inj F
                refine ⟨_, (ResOK.one rfl), ?_⟩
                refine ⟨(by first | rfl | simp), R0⟩
            ·
              replace F := ite_n hp5 F
              have hq5 := dec_f hp5
              refine CW.region ?_
              refine LW.pure rfl rfl (RV.move rfl) ?_
              refine LW.pure rfl rfl (RV.nei rfl rfl) ?_
              refine LW.pure rfl rfl (RV.move rfl) ?_
              refine LW.pureYB rfl rfl rfl rfl (not_f hq3) (RV.move rfl) ?_
              refine LW.pureYB rfl rfl rfl rfl (not_f hq3) (RV.eqi rfl rfl) ?_
              refine LW.pureYB rfl rfl rfl rfl (not_f hq3) (RV.move rfl) ?_
              refine LW.pureYB rfl rfl rfl rfl hq4 (RV.move rfl) ?_
              refine LW.pureYB rfl rfl rfl rfl hq4 (RV.eqi rfl rfl) ?_
              refine LW.pureYB rfl rfl rfl rfl (not_f hq3) (RV.pickTB rfl hq4 rfl) ?_
              refine LW.pureYB rfl rfl rfl rfl (not_f hq3) (RV.move rfl) ?_
              refine LW.noB rfl rfl rfl rfl (ne_beq (v := false) hq5 rfl) ?_
              refine LW.noB rfl rfl rfl rfl (ne_beq (v := false) hq5 rfl) ?_
              refine LW.noB rfl rfl rfl rfl (ne_beq (v := false) hq5 rfl) ?_
              refine LW.pureYB rfl rfl rfl rfl (not_f hq3) (RV.pickFB rfl hq5 rfl) ?_
              refine LW.pure rfl rfl (RV.pickFB rfl (not_f hq3) rfl) ?_
              refine LW.pure rfl rfl (RV.move rfl) ?_
              refine LW.noB rfl rfl rfl rfl (ne_beq (v := false) rfl rfl) ?_
              refine LW.pure rfl rfl (RV.pickFB rfl rfl rfl) ?_
              refine LW.pure rfl rfl (RV.assign rfl) ?_
              refine LW.nil (hK11 _ _ ?_)
              refine CW.ret ?_
              obtain rfl := Option.some.inj F
              refine ⟨_, (ResOK.one rfl), ?_⟩
              refine ⟨(by first | rfl | simp), R0⟩
          ·
            replace F := ite_n hp4 F
            have hq4 := dec_f hp4
            refine CW.region ?_
            refine LW.pure rfl rfl (RV.move rfl) ?_
            refine LW.pure rfl rfl (RV.nei rfl rfl) ?_
            refine LW.pure rfl rfl (RV.move rfl) ?_
            refine LW.pureYB rfl rfl rfl rfl (not_f hq3) (RV.move rfl) ?_
            refine LW.pureYB rfl rfl rfl rfl (not_f hq3) (RV.eqi rfl rfl) ?_
            refine LW.pureYB rfl rfl rfl rfl (not_f hq3) (RV.move rfl) ?_
            refine LW.noB rfl rfl rfl rfl (ne_beq (v := false) hq4 rfl) ?_
            refine LW.noB rfl rfl rfl rfl (ne_beq (v := false) hq4 rfl) ?_
            refine LW.pureYB rfl rfl rfl rfl (not_f hq3) (RV.pickFB rfl hq4 rfl) ?_
            refine LW.pureYB rfl rfl rfl rfl (not_f hq3) (RV.move rfl) ?_
            refine LW.noB rfl rfl rfl rfl (ne_beq (v := false) rfl rfl) ?_
            refine LW.noB rfl rfl rfl rfl (ne_beq (v := false) rfl rfl) ?_
            refine LW.noB rfl rfl rfl rfl (ne_beq (v := false) rfl rfl) ?_
            refine LW.pureYB rfl rfl rfl rfl (not_f hq3) (RV.pickFB rfl rfl rfl) ?_
            refine LW.pure rfl rfl (RV.pickFB rfl (not_f hq3) rfl) ?_
            refine LW.pure rfl rfl (RV.move rfl) ?_
            refine LW.noB rfl rfl rfl rfl (ne_beq (v := false) rfl rfl) ?_
            refine LW.pure rfl rfl (RV.pickFB rfl rfl rfl) ?_
            refine LW.pure rfl rfl (RV.assign rfl) ?_
            refine LW.nil (hK11 _ _ ?_)
            refine CW.ret ?_
            obtain rfl := Option.some.inj F
            refine ⟨_, (ResOK.one rfl), ?_⟩
            refine ⟨(by first | rfl | simp), R0⟩
        ·
          replace F := ite_n hp3 F
          have hq3 := dec_f hp3
          obtain ⟨r5, hr5, F⟩ := bnd_some F
          refine CW.region ?_
          refine LW.pure rfl rfl (RV.move rfl) ?_
          refine LW.pure rfl rfl (RV.nei rfl rfl) ?_
          refine LW.pure rfl rfl (RV.move rfl) ?_
          refine LW.noB rfl rfl rfl rfl (ne_beq (v := true) (not_t hq3) rfl) ?_
          refine LW.noB rfl rfl rfl rfl (ne_beq (v := true) (not_t hq3) rfl) ?_
          refine LW.noB rfl rfl rfl rfl (ne_beq (v := true) (not_t hq3) rfl) ?_
          refine LW.noU rfl rfl rfl rfl ?_
          refine LW.noU rfl rfl rfl rfl ?_
          refine LW.noB rfl rfl rfl rfl (ne_beq (v := true) (not_t hq3) rfl) ?_
          refine LW.noB rfl rfl rfl rfl (ne_beq (v := true) (not_t hq3) rfl) ?_
          refine LW.noU rfl rfl rfl rfl ?_
          refine LW.noU rfl rfl rfl rfl ?_
          refine LW.noU rfl rfl rfl rfl ?_
          refine LW.noB rfl rfl rfl rfl (ne_beq (v := true) (not_t hq3) rfl) ?_
          refine LW.pure rfl rfl (RV.pickTB rfl (not_t hq3) rfl) ?_
          refine LW.pure rfl rfl (RV.move rfl) ?_
          refine LW.yesB rfl rfl rfl rfl rfl (OW.call Tc17 rfl (law02_known_ok hr5) ?_)
          rintro _ w14 ⟨rfl, E8⟩
          refine ⟨_, rfl, ?_⟩
          replace H := H.grow E8
          replace R0 := H.ext
          refine LW.pure rfl rfl (RV.pickTB rfl rfl rfl) ?_
          refine LW.pure rfl rfl (RV.assign rfl) ?_
          refine LW.nil (hK11 _ _ ?_)
          refine CW.ret ?_
          obtain rfl := Option.some.inj F
          refine ⟨_, (ResOK.one rfl), ?_⟩
          refine ⟨(by first | rfl | simp), R0⟩
    ·
      intro K12 hK12 jK24
      obtain ⟨r9, hr9, F⟩ := bnd_some F
      by_cases hp7 : r9 = true
      ·
        replace F := ite_y hp7 F
        have hq7 : r9 = true := hp7
        refine CW.region ?_
        refine LW.pure rfl rfl (RV.loadA [.int .i64 r1.1.nodes, .int .i64 r1.1.from_, .int .i64 r1.1.to_, .slice A16_0_drains r1.1.drains.length c16_0_drains] Tk24 rfl (H.blk 2 rfl).cells rfl rfl) ?_
        refine LW.pure rfl rfl (RV.loadA [.int .i64 r8.1.nodes, .int .i64 r8.1.from_, .int .i64 r8.1.to_, .slice A18_0_drains r8.1.drains.length c18_0_drains] Tk24 rfl (H.blk 0 rfl).cells rfl rfl) ?_
        refine LW.go rfl rfl (OW.call Tc24 rfl (ref02_Same_ok (a0 := r1.1) (a1 := r8.1) (H.own 3 rfl).sl (H.own 1 rfl).sl hr9) ?_)
        rintro _ w15 ⟨rfl, E9⟩
        refine ⟨_, rfl, ?_⟩
        replace H := H.grow E9
        replace R0 := H.ext
        refine LW.pure rfl rfl (RV.not rfl) ?_
        refine LW.pure rfl rfl (RV.move rfl) ?_
        refine LW.pureYB rfl rfl rfl rfl (not_f hq7) (RV.move rfl) ?_
        refine LW.pureYB rfl rfl rfl rfl (not_f hq7) (RV.move rfl) ?_
        refine LW.pureYB rfl rfl rfl rfl (not_f hq7) (RV.nei rfl rfl) ?_
        refine LW.pure rfl rfl (RV.pickFB rfl (not_f hq7) rfl) ?_
        replace H := H.pick (L' := [.own A16_0_drains c16_0_drains 52 3 (List.map encDrain r1.1.drains), .blk b1 24 [.int .i64 a0.nodes, .int .i64 a0.from_, .int .i64 a0.to_, .slice A_a0_drains a0.drains.length c_a0_drains], .blk b3 24 [.int .i64 r1.1.nodes, .int .i64 r1.1.from_, .int .i64 r1.1.to_, .slice A16_0_drains r1.1.drains.length c16_0_drains]]) [3, 5, 2] (by decide) rfl
        replace R0 := H.ext
        refine LW.nil (jK24 _ _ ⟨_, ?_, ⟨(!(decide (r1.2 = r8.2))), F, rfl, H⟩⟩)
        exact ⟨rfl, rfl, rfl, rfl, rfl, trivial⟩
      ·
        replace F := ite_n hp7 F
        have hq7 : r9 = false := raw_f hp7
        refine CW.region ?_
        refine LW.pure rfl rfl (RV.loadA [.int .i64 r1.1.nodes, .int .i64 r1.1.from_, .int .i64 r1.1.to_, .slice A16_0_drains r1.1.drains.length c16_0_drains] Tk24 rfl (H.blk 2 rfl).cells rfl rfl) ?_
        refine LW.pure rfl rfl (RV.loadA [.int .i64 r8.1.nodes, .int .i64 r8.1.from_, .int .i64 r8.1.to_, .slice A18_0_drains r8.1.drains.length c18_0_drains] Tk24 rfl (H.blk 0 rfl).cells rfl rfl) ?_
        refine LW.go rfl rfl (OW.call Tc24 rfl (ref02_Same_ok (a0 := r1.1) (a1 := r8.1) (H.own 3 rfl).sl (H.own 1 rfl).sl hr9) ?_)
        rintro _ w16 ⟨rfl, E10⟩
        refine ⟨_, rfl, ?_⟩
        replace H := H.grow E10
        replace R0 := H.ext
        refine LW.pure rfl rfl (RV.not rfl) ?_
        refine LW.pure rfl rfl (RV.move rfl) ?_
        refine LW.noB rfl rfl rfl rfl (ne_beq (v := true) (not_t hq7) rfl) ?_
        refine LW.noB rfl rfl rfl rfl (ne_beq (v := true) (not_t hq7) rfl) ?_
        refine LW.noB rfl rfl rfl rfl (ne_beq (v := true) (not_t hq7) rfl) ?_
        refine LW.pure rfl rfl (RV.pickTB rfl (not_t hq7) rfl) ?_
        replace H := H.pick (L' := [.own A16_0_drains c16_0_drains 52 3 (List.map encDrain r1.1.drains), .blk b1 24 [.int .i64 a0.nodes, .int .i64 a0.from_, .int .i64 a0.to_, .slice A_a0_drains a0.drains.length c_a0_drains], .blk b3 24 [.int .i64 r1.1.nodes, .int .i64 r1.1.from_, .int .i64 r1.1.to_, .slice A16_0_drains r1.1.drains.length c16_0_drains]]) [3, 5, 2] (by decide) rfl
        replace R0 := H.ext
        refine LW.nil (jK24 _ _ ⟨_, ?_, ⟨true, F, rfl, H⟩⟩)
        exact ⟨rfl, rfl, rfl, rfl, rfl, trivial⟩
end Go.D2

namespace Go.Tb
/-- A loop over 0 .. N - 1 with a state, that is left at the first i for which p does not hold. -/
theorem scan_loop {S R : Type} (N : Nat) (p : Nat → Bool) (g : Nat → S) (L : Nat → S → Int → Option R) (yes : Option R) (no : Nat → Option R)
    (step : ∀ n i : Nat, i < N → L (n + 1) (g i) (i : Int) = if p i = true then L n (g (i + 1)) ((i + 1 : Nat) : Int) else no i)
    (stop : ∀ n : Nat, L (n + 1) (g N) (N : Int) = yes) : ∀ (d n i : Nat), N = i + d → d < n → L n (g i) (i : Int) = match (List.range' i d).find? (fun j => !p j) with | none => yes | some j => no j
  | 0, n + 1, i, hd, hn => by
    have hi : i = N := by omega
    subst hi
    rw [stop n]; rfl
  | d + 1, n + 1, i, hd, hn => by
    rw [step n i (by omega), List.range'_succ, List.find?_cons]
    cases hp : p i
    · simp
    · simp only [if_true, Bool.not_true]
      exact scan_loop N p g L yes no step stop d n (i + 1) (by omega) (by omega)
theorem find_all {p : Nat → Bool} {i d : Nat} : (List.range' i d).find? (fun j => !p j) = none ↔ ∀ j, i ≤ j → j < i + d → p j = true := by
  rw [List.find?_eq_none]
  constructor
  · intro h j h1 h2
    have := h j (by rw [List.mem_range'_1]; omega)
    simpa using this
  · intro h x hx
    rw [List.mem_range'_1] at hx
    simp [h x hx.1 hx.2]
/-- A loop over 0 .. N - 1 with a state and no way out. -/
theorem for_loop {S R : Type} (N : Nat) (g : Nat → S) (L : Nat → S → Int → Option R) (yes : Option R)
    (step : ∀ n i : Nat, i < N → L (n + 1) (g i) (i : Int) = L n (g (i + 1)) ((i + 1 : Nat) : Int))
    (stop : ∀ n : Nat, L (n + 1) (g N) (N : Int) = yes) : ∀ (d n i : Nat), N = i + d → d < n → L n (g i) (i : Int) = yes
  | 0, n + 1, i, hd, hn => by
    have hi : i = N := by omega
    subst hi
    exact stop n
  | d + 1, n + 1, i, hd, hn => by
    rw [step n i (by omega)]
    exact for_loop N g L yes step stop d n (i + 1) (by omega) (by omega)
theorem for_loop0 {S R : Type} (N : Nat) (g : Nat → S) (L : Nat → S → Int → Option R) (yes : Option R)
    (step : ∀ n i : Nat, i < N → L (n + 1) (g i) (i : Int) = L n (g (i + 1)) ((i + 1 : Nat) : Int))
    (stop : ∀ n : Nat, L (n + 1) (g N) (N : Int) = yes) (hN : N ≤ 9223372036854775807) : L FU (g 0) 0 = yes :=
  for_loop N g L yes step stop N FU 0 (by omega) (by have := FU_pos; omega)
theorem scan_loop0 {S R : Type} (N : Nat) (p : Nat → Bool) (g : Nat → S) (L : Nat → S → Int → Option R) (yes no : Option R)
    (step : ∀ n i : Nat, i < N → L (n + 1) (g i) (i : Int) = if p i = true then L n (g (i + 1)) ((i + 1 : Nat) : Int) else no)
    (stop : ∀ n : Nat, L (n + 1) (g N) (N : Int) = yes) (hN : N ≤ 9223372036854775807) : L FU (g 0) 0 = if (∀ j, j < N → p j = true) then yes else no := by
  have h := scan_loop N p g L yes (fun _ => no) step stop N FU 0 (by omega) (by have := FU_pos; omega)
  refine Eq.trans h ?_
  cases hf : (List.range' 0 N).find? (fun j => !p j) with
  | none => rw [if_pos (fun j hj => find_all.1 hf j (by omega) (by omega))]
  | some j =>
    have h1 := List.find?_some hf
    have h2 := List.mem_of_find?_eq_some hf
    rw [List.mem_range'_1] at h2
    rw [if_neg]
    intro hall
    have := hall j (by omega)
    simp [this] at h1
/-- The same over the elements of a list. -/
theorem list_loop0 {α R : Type} (l : List α) (p : α → Bool) (L : Nat → Int → Option R) (yes no : Option R)
    (step : ∀ (n i : Nat) (x : α), l[i]? = some x → L (n + 1) (i : Int) = if p x = true then L n ((i + 1 : Nat) : Int) else no)
    (stop : ∀ n : Nat, L (n + 1) (l.length : Int) = yes) (hl : l.length ≤ 9223372036854775807) : L FU 0 = if l.all p = true then yes else no := by
  have h := scan_loop0 l.length (fun i => (l[i]?.map p).getD true) (fun _ => ()) (fun n _ i => L n i) yes no (fun n i hi => by
    have hx : l[i]? = some l[i] := by simp [hi]
    rw [step n i _ hx]; simp [hx]) stop hl
  refine Eq.trans h ?_
  by_cases ha : l.all p = true
  · rw [if_pos ha, if_pos]
    intro j hj
    have := List.all_eq_true.1 ha l[j] (List.getElem_mem hj)
    simp [hj, this]
  · rw [if_neg ha, if_neg]
    intro hc
    refine ha (List.all_eq_true.2 fun x hx => ?_)
    obtain ⟨j, hj⟩ := List.getElem?_of_mem hx
    have := hc j (lt_of_at hj)
    simpa [hj] using this
end Go.Tb

set_option linter.unusedVariables false
set_option linter.unusedSimpArgs false
namespace Go.D2
open Go.Tb
theorem known_eq : law02_known = some true := by decide +kernel
theorem for0 {S R : Type} (N : Nat) (g : Nat → S) (L : Nat → S → Int → Option R) (yes : Option R) {s0 : S} (h0 : g 0 = s0)
    (step : ∀ n i : Nat, i < N → L (n + 1) (g i) (i : Int) = L n (g (i + 1)) ((i + 1 : Nat) : Int))
    (stop : ∀ n : Nat, L (n + 1) (g N) (N : Int) = yes) (hN : N ≤ 9223372036854775807) : L FU s0 0 = yes := by
  rw [← h0]; exact for_loop0 N g L yes step stop hN
def within (n lo hi : Int) : Bool := decide (lo ≤ n) && decide (n ≤ hi)
theorem within_iff {n lo hi : Int} : within n lo hi = true ↔ lo ≤ n ∧ n ≤ hi := by unfold within; simp
theorem from_eq (n lo hi : Int) : drain_from n lo hi = some (within n lo hi) := by
  unfold drain_from within
  by_cases h : lo ≤ n <;> simp [h]
theorem within_eq (n lo hi : Int) : ref02_within n lo hi = some (within n lo hi) := by
  unfold ref02_within within
  by_cases h : lo ≤ n <;> simp [h]
def isNode (n : Net) (i : Int) : Bool := within i 0 (n.nodes - 1)
theorem isNode_eq {n : Net} (h : InR (n.nodes - 1)) (i : Int) : drain_isNode n i = some (isNode n i) := by
  unfold drain_isNode isNode
  rw [gd_pos h, bnd_eq (from_eq _ _ _)]
def okD (n : Net) (d : Drain) : Bool := isNode n d.from_ && isNode n d.to_ && !decide (d.from_ = d.to_) && within d.width 0 20
def okH (n : Net) : Bool := within n.nodes 2 8 && isNode n n.from_ && isNode n n.to_ && !decide (n.from_ = n.to_)
def validate (n : Net) : Int := if okH n = true then (if 16 < n.drains.length then 3 else if n.drains.all (okD n) = true then 0 else 1) else 1
theorem Validate_eq {n : Net} (hl : n.drains.length ≤ 1000) : drain_Validate n = some (validate n) := by
  unfold drain_Validate validate okH
  rw [bnd_eq (from_eq _ _ _)]
  cases h1 : within n.nodes 2 8
  · rw [if_neg (by simp)]; unfold drain_Validate_k3; rw [if_pos rfl, if_neg (by simp)]
  · have hn := within_iff.1 h1
    have hr : InR (n.nodes - 1) := by omega
    rw [if_pos rfl, bnd_eq (isNode_eq hr _)]
    cases h2 : isNode n n.from_
    · rw [if_neg (by simp)]; unfold drain_Validate_k3; rw [if_pos rfl, if_neg (by simp)]
    · rw [if_pos rfl, bnd_eq (isNode_eq hr _)]
      cases h3 : isNode n n.to_
      · rw [if_neg (by simp)]; unfold drain_Validate_k3; rw [if_pos rfl, if_neg (by simp)]
      · rw [if_pos rfl]
        unfold drain_Validate_k3
        by_cases h4 : n.from_ = n.to_
        · rw [if_pos (by simp [h4]), if_neg (show ¬ (true && true && true && !decide (n.from_ = n.to_)) = true by simp [h4])]
        · rw [if_neg (by simp [h4]), if_pos (show (true && true && true && !decide (n.from_ = n.to_)) = true by simp [h4])]
          by_cases h5 : 16 < n.drains.length
          · rw [if_pos (by omega), if_pos h5]
          · rw [if_neg (by omega), if_neg h5, list_loop0 n.drains (okD n) (drain_Validate_L1 n) (some 0) (some 1) (fun m i x hx => ?_) (fun m => ?_) (by omega)]
            · split <;> rfl
            · have := lt_of_at hx
              show drain_Validate_B1 n (drain_Validate_L1 n m) _ = _
              unfold drain_Validate_B1 okD
              rw [if_pos (by omega), ix_nat hx, bnd_eq (isNode_eq hr _)]
              unfold drain_Validate_k2
              cases isNode n x.from_
              · rw [if_neg (by simp), if_pos rfl, if_neg (by simp)]
              · rw [if_pos rfl, bnd_eq (isNode_eq hr _)]
                cases isNode n x.to_
                · rw [if_neg (by simp), if_pos rfl, if_neg (by simp)]
                · rw [if_pos rfl]
                  by_cases h6 : x.from_ = x.to_
                  · rw [if_pos h6, if_pos rfl, if_neg (by simp [h6])]
                  · rw [if_neg h6, bnd_eq (from_eq _ _ _)]
                    cases within x.width 0 20
                    · rw [if_pos (by rfl), if_neg (by simp)]
                    · rw [if_neg (by simp), gd_pos (by omega), if_pos (by simp [h6])]; rfl
            · show drain_Validate_B1 n (drain_Validate_L1 n m) _ = _
              unfold drain_Validate_B1
              rw [if_neg (by omega)]; rfl
theorem rValidate_eq {n : Net} (hl : n.drains.length ≤ 1000) : ref02_Validate n = some (validate n) := by
  unfold ref02_Validate validate okH isNode
  rw [bnd_eq (within_eq _ _ _)]
  cases h1 : within n.nodes 2 8
  · rw [if_neg (by simp)]; unfold ref02_Validate_k3; rw [if_pos rfl, if_neg (by simp)]
  · have hn := within_iff.1 h1
    have hr : InR (n.nodes - 1) := by omega
    rw [if_pos rfl, gd_pos hr, bnd_eq (within_eq _ _ _)]
    cases h2 : within n.from_ 0 (n.nodes - 1)
    · rw [if_neg (by simp)]; unfold ref02_Validate_k3; rw [if_pos rfl, if_neg (by simp)]
    · rw [if_pos rfl, gd_pos hr, bnd_eq (within_eq _ _ _)]
      cases h3 : within n.to_ 0 (n.nodes - 1)
      · rw [if_neg (by simp)]; unfold ref02_Validate_k3; rw [if_pos rfl, if_neg (by simp)]
      · rw [if_pos rfl]
        unfold ref02_Validate_k3
        by_cases h4 : n.from_ = n.to_
        · rw [if_pos (by simp [h4]), if_neg (show ¬ (true && true && true && !decide (n.from_ = n.to_)) = true by simp [h4])]
        · rw [if_neg (by simp [h4]), if_pos (show (true && true && true && !decide (n.from_ = n.to_)) = true by simp [h4])]
          by_cases h5 : 16 < n.drains.length
          · rw [if_pos (by omega), if_pos h5]
          · rw [if_neg (by omega), if_neg h5, list_loop0 n.drains (okD n) (ref02_Validate_L1 n) (some 0) (some 1) (fun m i x hx => ?_) (fun m => ?_) (by omega)]
            · split <;> rfl
            · have := lt_of_at hx
              show ref02_Validate_B1 n (ref02_Validate_L1 n m) _ = _
              unfold ref02_Validate_B1 okD isNode
              rw [if_pos (by omega), ix_nat hx, gd_pos hr, bnd_eq (within_eq _ _ _)]
              unfold ref02_Validate_k2
              cases within x.from_ 0 (n.nodes - 1)
              · rw [if_neg (by simp), if_pos rfl, if_neg (by simp)]
              · rw [if_pos rfl, gd_pos hr, bnd_eq (within_eq _ _ _)]
                cases within x.to_ 0 (n.nodes - 1)
                · rw [if_neg (by simp), if_pos rfl, if_neg (by simp)]
                · rw [if_pos rfl]
                  by_cases h6 : x.from_ = x.to_
                  · rw [if_pos h6, if_pos rfl, if_neg (by simp [h6])]
                  · rw [if_neg h6, bnd_eq (within_eq _ _ _)]
                    cases within x.width 0 20
                    · rw [if_pos (by rfl), if_neg (by simp)]
                    · rw [if_neg (by simp), gd_pos (by omega), if_pos (by simp [h6])]; rfl
            · show ref02_Validate_B1 n (ref02_Validate_L1 n m) _ = _
              unfold ref02_Validate_B1
              rw [if_neg (by omega)]; rfl
/-- A net that is right, but for how wide its drains are. -/
structure Net0 (n : Net) : Prop where
  n2 : 2 ≤ n.nodes
  n8 : n.nodes ≤ 8
  s0 : 0 ≤ n.from_ ∧ n.from_ < n.nodes
  t0 : 0 ≤ n.to_ ∧ n.to_ < n.nodes
  ne : n.from_ ≠ n.to_
  len : n.drains.length ≤ 16
  dr : ∀ d ∈ n.drains, (0 ≤ d.from_ ∧ d.from_ < n.nodes) ∧ (0 ≤ d.to_ ∧ d.to_ < n.nodes) ∧ d.from_ ≠ d.to_ ∧ 0 ≤ d.width ∧ d.width ≤ 1000
structure NetOk (n : Net) : Prop extends Net0 n where
  w20 : ∀ d ∈ n.drains, d.width ≤ 20
theorem val0 {n : Net} : validate n = 0 ↔ NetOk n := by
  unfold validate
  constructor
  · intro h
    split at h
    · rename_i hh
      split at h
      · cases h
      · split at h
        · rename_i hl ha
          unfold okH isNode at hh
          simp only [Bool.and_eq_true, within_iff, Bool.not_eq_true', decide_eq_false_iff_not] at hh
          obtain ⟨⟨⟨h1, h2⟩, h3⟩, h4⟩ := hh
          have hd : ∀ d ∈ n.drains, (0 ≤ d.from_ ∧ d.from_ ≤ n.nodes - 1) ∧ (0 ≤ d.to_ ∧ d.to_ ≤ n.nodes - 1) ∧ d.from_ ≠ d.to_ ∧ 0 ≤ d.width ∧ d.width ≤ 20 := fun d hd => by
            have := List.all_eq_true.1 ha d hd
            unfold okD isNode at this
            simp only [Bool.and_eq_true, within_iff, Bool.not_eq_true', decide_eq_false_iff_not] at this
            obtain ⟨⟨⟨a1, a2⟩, a3⟩, a4⟩ := this
            exact ⟨a1, a2, a3, a4.1, a4.2⟩
          exact ⟨⟨h1.1, h1.2, by omega, by omega, h4, by omega, fun d hd' => by have := hd d hd'; exact ⟨by omega, by omega, this.2.2.1, by omega, by omega⟩⟩, fun d hd' => (hd d hd').2.2.2.2⟩
        · cases h
    · cases h
  · intro h
    rw [if_pos, if_neg (by have := h.len; omega), if_pos]
    · rw [List.all_eq_true]
      intro d hd
      have := h.dr d hd
      have h20 := h.w20 d hd
      unfold okD isNode
      simp only [Bool.and_eq_true, within_iff, Bool.not_eq_true', decide_eq_false_iff_not]
      exact ⟨⟨⟨by omega, by omega⟩, this.2.2.1⟩, by omega⟩
    · have h1 := h.n2; have h2 := h.n8; have h3 := h.s0; have h4 := h.t0
      unfold okH isNode
      simp only [Bool.and_eq_true, within_iff, Bool.not_eq_true', decide_eq_false_iff_not]
      exact ⟨⟨⟨by omega, by omega⟩, by omega⟩, h.ne⟩
end Go.D2

set_option linter.unusedVariables false
set_option linter.unusedSimpArgs false
namespace Go.D2
open Go.Tb
def Eds (l : List Left) : List Ed := l.map toEd
def Caps (l : List Left) : Prop := ∀ d ∈ l, 0 ≤ d.runs ∧ d.runs ≤ d.drain.width ∧ d.drain.width ≤ 1000
theorem eds_at {l : List Left} {i : Nat} {e : Ed} (h : (Eds l)[i]? = some e) : ∃ d, l[i]? = some d ∧ e = toEd d := by
  unfold Eds at h
  rw [List.getElem?_map] at h
  cases hd : l[i]? with
  | none => rw [hd] at h; cases h
  | some d => rw [hd] at h; cases h; exact ⟨d, rfl, rfl⟩
theorem caps_room {l : List Left} (h : Caps l) : RoomOk (Eds l) := fun e he => by
  obtain ⟨d, hd, rfl⟩ := List.mem_map.1 he
  have := h d hd
  show InR d.runs ∧ InR (d.drain.width - d.runs)
  omega
theorem left_room_eq {d : Left} {u : Int} (h : 0 ≤ d.runs ∧ d.runs ≤ d.drain.width ∧ d.drain.width ≤ 1000) : drain_left_room d u = some (other (toEd d) u, room (toEd d) u) := by
  unfold drain_left_room other room
  by_cases h1 : d.drain.from_ = u
  · have h2 : (toEd d).a = u := h1
    rw [if_pos h1, if_pos h2, if_pos h2]; exact gd_pos (by omega)
  · have h2 : ¬ (toEd d).a = u := h1
    rw [if_neg h1, if_neg h2, if_neg h2]; rfl
def ints (ks : List Nat) : List Int := ks.map (fun (q : Nat) => (q : Int))
theorem ints_at {pre suf : List Nat} {i : Nat} : (ints (pre ++ i :: suf))[pre.length]? = some (i : Int) := by
  unfold ints
  rw [List.getElem?_map, List.getElem?_append_right (Nat.le_refl _)]; simp
/-- The smallest room along a way. -/
def minRoom (E : List Ed) : Int → Int → List Nat → Int
  | _, m, [] => m
  | u, m, i :: r => match E[i]? with
    | some e => minRoom E (other e u) (if m < 0 ∨ room e u < m then room e u else m) r
    | none => m
theorem minRoom_spec {E : List Ed} : ∀ (ks : List Nat) (vis : List Int) (u v m : Int), SP E vis u ks v → (0 < m ∨ (m < 0 ∧ ks ≠ [])) → 0 < minRoom E u m ks ∧ (0 < m → minRoom E u m ks ≤ m) ∧ AllRoom E (minRoom E u m ks) u ks
  | [], vis, u, v, m, h, hm => by
    rcases hm with h1 | ⟨_, h1⟩
    · exact ⟨h1, fun _ => Int.le_refl _, trivial⟩
    · exact absurd rfl h1
  | i :: r, vis, u, v, m, h, hm => by
    obtain ⟨e, he, hu, hp, hn, hr⟩ := h
    have e1 : minRoom E u m (i :: r) = minRoom E (other e u) (if m < 0 ∨ room e u < m then room e u else m) r := by simp only [minRoom, he]
    rw [e1]
    have hm' : 0 < (if m < 0 ∨ room e u < m then room e u else m) := by
      split
      · exact hp
      · rename_i hc
        rcases hm with h1 | ⟨h1, h1'⟩
        · exact h1
        · exact absurd (.inl h1) hc
    obtain ⟨i1, i2, i3⟩ := minRoom_spec r (u :: vis) (other e u) v _ hr (.inl hm')
    have i2 := i2 hm'
    generalize minRoom E (other e u) (if m < 0 ∨ room e u < m then room e u else m) r = q at *
    refine ⟨i1, fun h0 => ?_, e, he, ?_, i3⟩
    · split at i2 <;> omega
    · split at i2
      · exact i2
      · rename_i hc; omega
theorem run_L2 {n : Net} {l : List Left} (hc : Caps l) (rec2 : List Left → Option (List Left)) {ks : List Nat} (hk : ks.length ≤ 1000) : ∀ (suf pre : List Nat) (vis : List Int) (u v m : Int) (k : Nat), ks = pre ++ suf → SP (Eds l) vis u suf v → suf.length < k →
    drain_run_L2 n l rec2 (ints ks) k u m (pre.length : Int) = drain_run_k2 n l rec2 (ints ks) (minRoom (Eds l) u m suf)
  | [], pre, vis, u, v, m, k + 1, hks, h, hlt => by
    show drain_run_B2 n l rec2 (ints ks) (drain_run_L2 n l rec2 (ints ks) k) u m _ = _
    unfold drain_run_B2
    rw [if_neg (by rw [hks]; simp [ints])]; rfl
  | i :: r, pre, vis, u, v, m, k + 1, hks, h, hlt => by
    have h0 := h
    obtain ⟨e, he, hu, hp, hn, hr⟩ := h
    obtain ⟨d, hd, rfl⟩ := eds_at he
    have hcd := hc d (List.mem_of_getElem? hd)
    have hpl : pre.length < 1000 := by rw [hks] at hk; simp at hk; omega
    have ih := run_L2 (n := n) hc rec2 hk r (pre ++ [i]) (u :: vis) (other (toEd d) u) v (if m < 0 ∨ room (toEd d) u < m then room (toEd d) u else m) k (by rw [hks]; simp) hr (by simp at hlt; omega)
    have e1 : minRoom (Eds l) u m (i :: r) = minRoom (Eds l) (other (toEd d) u) (if m < 0 ∨ room (toEd d) u < m then room (toEd d) u else m) r := by simp only [minRoom, he]
    have e2 : (((pre ++ [i]).length : Nat) : Int) = (pre.length : Int) + 1 := by simp
    rw [e1, ← ih, e2]
    show drain_run_B2 n l rec2 (ints ks) (drain_run_L2 n l rec2 (ints ks) k) u m _ = _
    unfold drain_run_B2
    have hi : (ints ks)[pre.length]? = some (i : Int) := by rw [hks]; exact ints_at
    rw [if_pos (by have := lt_of_at hi; omega), ix_nat hi, ix_nat hd, bnd_eq (left_room_eq hcd)]
    unfold drain_run_k4 drain_run_k3
    by_cases h1 : m < 0
    · rw [if_pos h1, if_pos rfl, gd_pos (by omega), if_pos (.inl h1)]
    · rw [if_neg h1]
      by_cases h2 : room (toEd d) u < m
      · rw [if_pos (by simpa using h2), gd_pos (by omega), if_pos (.inr h2)]
      · rw [if_neg (by simpa using h2), gd_pos (by omega), if_neg (by omega)]
def moreL (m : Int) (d : Left) (u : Int) : Left := if d.drain.from_ = u then ⟨d.drain, d.runs + m⟩ else ⟨d.drain, d.runs - m⟩
theorem moreL_ed (m : Int) (d : Left) (u : Int) : toEd (moreL m d u) = more m (toEd d) u := by
  unfold moreL more
  by_cases h : d.drain.from_ = u
  · have h2 : (toEd d).a = u := h
    rw [if_pos h, if_pos h2]; rfl
  · have h2 : ¬ (toEd d).a = u := h
    rw [if_neg h, if_neg h2]; rfl
def augL (m : Int) : List Left → Int → List Nat → List Left
  | l, _, [] => l
  | l, u, i :: r => match l[i]? with
    | some d => augL m (l.set i (moreL m d u)) (other (toEd d) u) r
    | none => l
theorem eds_set {l : List Left} {i : Nat} {m : Int} {d : Left} {u : Int} : Eds (l.set i (moreL m d u)) = (Eds l).set i (more m (toEd d) u) := by
  unfold Eds
  rw [List.map_set, moreL_ed]
theorem augL_ed {m : Int} : ∀ (ks : List Nat) (l : List Left) (u : Int), Eds (augL m l u ks) = aug m (Eds l) u ks
  | [], l, u => rfl
  | i :: r, l, u => by
    cases hd : l[i]? with
    | none =>
      have he : (Eds l)[i]? = none := by unfold Eds; rw [List.getElem?_map, hd]; rfl
      simp only [augL, aug, hd, he]
    | some d =>
      have he : (Eds l)[i]? = some (toEd d) := by unfold Eds; rw [List.getElem?_map, hd]; rfl
      simp only [augL, aug, hd, he]
      rw [augL_ed r, eds_set]
theorem augL_drains {m : Int} : ∀ (ks : List Nat) (l : List Left) (u : Int), (augL m l u ks).map Left.drain = l.map Left.drain
  | [], l, u => rfl
  | i :: r, l, u => by
    cases hd : l[i]? with
    | none => simp only [augL, hd]
    | some d =>
      simp only [augL, hd]
      rw [augL_drains r, List.map_set]
      have : (moreL m d u).drain = d.drain := by unfold moreL; split <;> rfl
      rw [this]
      apply List.ext_getElem?
      intro j
      rw [List.getElem?_set]
      by_cases h : i = j
      · subst h
        have := lt_of_at hd
        rw [if_pos rfl, if_pos (by simpa using this), List.getElem?_map, hd]; rfl
      · rw [if_neg h]
theorem caps_set {l : List Left} {i : Nat} {d d' : Left} (hc : Caps l) (h : 0 ≤ d'.runs ∧ d'.runs ≤ d'.drain.width ∧ d'.drain.width ≤ 1000) : Caps (l.set i d') := fun x hx => by
  rcases List.mem_or_eq_of_mem_set hx with h1 | rfl
  · exact hc x h1
  · exact h
theorem run_L1 (rec2 : List Left → Option (List Left)) {ks : List Nat} (hk : ks.length ≤ 1000) {m : Int} (hm : 0 ≤ m ∧ m ≤ 1000) : ∀ (suf pre : List Nat) (vis : List Int) (u v : Int) (l : List Left) (k : Nat), ks = pre ++ suf → Caps l → SP (Eds l) vis u suf v → AllRoom (Eds l) m u suf → suf.length < k →
    drain_run_L1 rec2 (ints ks) m k u (pre.length : Int) l = rec2 (augL m l u suf)
  | [], pre, vis, u, v, l, k + 1, hks, hc, h, ha, hlt => by
    show drain_run_B1 rec2 (ints ks) m (drain_run_L1 rec2 (ints ks) m k) u _ l = _
    unfold drain_run_B1
    rw [if_neg (by rw [hks]; simp [ints])]; rfl
  | i :: r, pre, vis, u, v, l, k + 1, hks, hc, h, ha, hlt => by
    have honce := sp_once h
    obtain ⟨e, he, hu, hp, hn, hr⟩ := h
    obtain ⟨e0, he0, hmr, har⟩ := ha
    rw [he] at he0; cases he0
    obtain ⟨d, hd, rfl⟩ := eds_at he
    have hcd := hc d (List.mem_of_getElem? hd)
    have hpl : pre.length < 1000 := by rw [hks] at hk; simp at hk; omega
    have hcong : ∀ j ∈ r, (Eds (l.set i (moreL m d u)))[j]? = (Eds l)[j]? := fun j hj => by
      rw [eds_set, List.getElem?_set_ne (fun h : i = j => honce (by rw [h]; exact hj))]
    have hcm : 0 ≤ (moreL m d u).runs ∧ (moreL m d u).runs ≤ (moreL m d u).drain.width ∧ (moreL m d u).drain.width ≤ 1000 := by
      unfold room at hmr
      unfold moreL
      by_cases h1 : d.drain.from_ = u
      · have h2 : (toEd d).a = u := h1
        rw [if_pos h2] at hmr
        rw [if_pos h1]
        have : m ≤ d.drain.width - d.runs := hmr
        simp only; omega
      · have h2 : ¬ (toEd d).a = u := h1
        rw [if_neg h2] at hmr
        rw [if_neg h1]
        have : m ≤ d.runs := hmr
        simp only; omega
    have ih := run_L1 rec2 hk hm r (pre ++ [i]) (u :: vis) (other (toEd d) u) v (l.set i (moreL m d u)) k (by rw [hks]; simp) (caps_set (d := d) hc hcm) (sp_congr r _ _ v hcong hr) (allRoom_congr r _ hcong har) (by simp at hlt; omega)
    have e1 : augL m l u (i :: r) = augL m (l.set i (moreL m d u)) (other (toEd d) u) r := by simp only [augL, hd]
    have e2 : (((pre ++ [i]).length : Nat) : Int) = (pre.length : Int) + 1 := by simp
    rw [e1, ← ih, e2]
    show drain_run_B1 rec2 (ints ks) m (drain_run_L1 rec2 (ints ks) m k) u _ l = _
    unfold drain_run_B1
    have hi : (ints ks)[pre.length]? = some (i : Int) := by rw [hks]; exact ints_at
    rw [if_pos (by have := lt_of_at hi; omega), ix_nat hi, ix_nat hd, bnd_eq (left_room_eq hcd), ix_nat hd]
    unfold drain_run_k1 moreL
    by_cases h1 : d.drain.from_ = u
    · rw [if_pos h1, ix_nat hd, gd_pos (by omega), ix_nat hd, gd_pos (by omega), if_pos h1]; rfl
    · rw [if_neg h1, ix_nat hd, gd_pos (by omega), ix_nat hd, gd_pos (by omega), if_neg h1]; rfl
/-- What is known of the program's drains. -/
structure FlowL (n : Net) (l : List Left) : Prop where
  drains : l.map Left.drain = n.drains
  flow : Flow n.nodes.toNat n.from_ n.to_ (Eds l)
  caps : Caps l
theorem flowL_ne {n : Net} {l : List Left} (hn : Net0 n) (h : FlowL n l) : ∀ e ∈ Eds l, e.a ≠ e.b := fun e he => by
  obtain ⟨d, hd, rfl⟩ := List.mem_map.1 he
  have : d.drain ∈ n.drains := by rw [← h.drains]; exact List.mem_map_of_mem hd
  exact (hn.dr _ this).2.2.1
theorem sp_len {E : List Ed} : ∀ (ks : List Nat) (vis : List Int) (u v : Int), SP E vis u ks v → (∀ i ∈ ks, i < E.length) ∧ ks.Nodup
  | [], _, _, _, _ => ⟨by simp, List.nodup_nil⟩
  | i :: r, vis, u, v, h => by
    have h1 := sp_once h
    obtain ⟨e, he, _, _, _, hr⟩ := h
    have ⟨i1, i2⟩ := sp_len r _ _ _ hr
    exact ⟨fun j hj => by
      rcases List.mem_cons.1 hj with rfl | hj
      · exact lt_at he
      · exact i1 j hj, List.nodup_cons.2 ⟨h1, i2⟩⟩
theorem nodup_len : ∀ (n : Nat) (ks : List Nat), (∀ i ∈ ks, i < n) → ks.Nodup → ks.length ≤ n
  | 0, [], _, _ => Nat.le_refl _
  | 0, i :: r, h, _ => absurd (h i (List.mem_cons_self ..)) (by omega)
  | n + 1, ks, h, hd => by
    have h1 : (ks.erase n).length ≤ n := nodup_len n (ks.erase n) (fun i hi => by
      have h2 := h i (List.mem_of_mem_erase hi)
      have h3 : i ≠ n := fun e => by rw [e] at hi; exact (List.Nodup.mem_erase_iff hd).1 hi |>.1 rfl
      omega) (hd.erase n)
    have := List.length_erase_le (a := n) (l := ks)
    by_cases hm : n ∈ ks
    · have := List.length_erase_of_mem hm; omega
    · rw [List.erase_of_not_mem hm] at h1; omega
/-- The search in the program's drains. -/
theorem search_eq {n : Net} {l : List Left} (hn : Net0 n) (h : FlowL n l) {s t : Int} (hs : 0 ≤ s ∧ s < n.nodes) (hst : s ≠ t) :
    (∃ ks : List Nat, ks ≠ [] ∧ ks.length ≤ 1000 ∧ drain_search l s t = some (ints ks) ∧ SP (Eds l) [] s ks t) ∨ (drain_search l s t = some [] ∧ ∃ S : Int → Bool, S s = true ∧ S t = false ∧ Closed S (Eds l) ∧ ∀ v, S v = true → Reach (Eds l) s v) := by
  have h8 := hn.n8
  have h2 := hn.n2
  have hlen : (Eds l).length ≤ 16 := by
    have := congrArg List.length h.drains
    have h3 := hn.len
    unfold Eds; simp at this ⊢; omega
  rcases search_spec (K := FU) h.flow.dom (caps_room h.caps) (by omega) (show 0 ≤ s ∧ s < ((n.nodes.toNat : Nat) : Int) by omega) hst (flowL_ne hn h) (by have := FU_pos; omega) with ⟨ks, k1, k2, k3⟩ | ⟨S, k1, k2, k3, k4, k5⟩
  · refine .inl ⟨ks, k1, ?_, ?_, k3⟩
    · have ⟨q1, q2⟩ := sp_len ks [] s t k3
      have := nodup_len _ ks q1 q2
      omega
    · unfold drain_search
      have k2' : dfs (l.map toEd) t FU s [] [] = some (.inr (ints ks)) := k2
      rw [gd_pos hst, k2']
      exact gd_pos (by unfold ints; simpa using k1)
  · refine .inr ⟨?_, sees S, k2, k3, k4, k5⟩
    unfold drain_search
    have k1' : dfs (l.map toEd) t FU s [] [] = some (.inl S) := k1
    rw [gd_pos hst, k1']
def Maxed (n : Net) (l : List Left) : Prop := FlowL n l ∧ ∃ S : Int → Bool, S n.from_ = true ∧ S n.to_ = false ∧ Closed S (Eds l) ∧ ∀ v, S v = true → Reach (Eds l) n.from_ v
theorem run_L3 {n : Net} (hn : Net0 n) : ∀ (q : Nat) (l : List Left) (k : Nat), FlowL n l → cutW (fun v => decide (v = n.from_)) (Eds l) - out (Eds l) n.from_ ≤ q → q < k → ∃ l', drain_run_L3 n k l = some l' ∧ Maxed n l' := by
  intro q
  induction q with
  | zero =>
    intro l k h hq hk
    obtain ⟨k, rfl⟩ : ∃ k', k = k' + 1 := ⟨k - 1, by omega⟩
    rcases search_eq hn h (s := n.from_) (t := n.to_) hn.s0 hn.ne with ⟨ks, k1, k2, k3, k4⟩ | ⟨k1, S, k2⟩
    · exfalso
      obtain ⟨m1, _, m3⟩ := minRoom_spec ks [] n.from_ n.to_ (-1) k4 (.inr ⟨by omega, k1⟩)
      obtain ⟨f1, f2, f3⟩ := aug_flow h.flow (Int.le_of_lt m1) hn.ne k4 m3
      have hw := weak f1 (show 0 ≤ n.from_ ∧ n.from_ < ((n.nodes.toNat : Nat) : Int) by have := hn.s0; omega) (S := fun v => decide (v = n.from_)) (by simp) (by have := hn.ne; simp; omega)
      rw [f2, alike_cut _ f3] at hw
      omega
    · refine ⟨l, ?_, h, S, k2⟩
      show drain_run_B3 n (drain_run_L3 n k) l = _
      unfold drain_run_B3
      rw [bnd_eq k1, if_pos rfl]
  | succ q ih =>
    intro l k h hq hk
    obtain ⟨k, rfl⟩ : ∃ k', k = k' + 1 := ⟨k - 1, by omega⟩
    rcases search_eq hn h (s := n.from_) (t := n.to_) hn.s0 hn.ne with ⟨ks, k1, k2, k3, k4⟩ | ⟨k1, S, k2⟩
    · obtain ⟨m1, _, m3⟩ := minRoom_spec ks [] n.from_ n.to_ (-1) k4 (.inr ⟨by omega, k1⟩)
      obtain ⟨f1, f2, f3⟩ := aug_flow h.flow (Int.le_of_lt m1) hn.ne k4 m3
      have hm1000 : minRoom (Eds l) n.from_ (-1) ks ≤ 1000 := by
        cases ks with
        | nil => exact absurd rfl k1
        | cons i r =>
          obtain ⟨e, he, hmr, _⟩ := m3
          obtain ⟨d, hd, rfl⟩ := eds_at he
          have := h.caps d (List.mem_of_getElem? hd)
          have : room (toEd d) n.from_ ≤ 1000 := by
            unfold room; split
            · show d.drain.width - d.runs ≤ 1000; omega
            · show d.runs ≤ 1000; omega
          omega
      have hcaps : Caps (augL (minRoom (Eds l) n.from_ (-1) ks) l n.from_ ks) := fun d hd => by
        have he : toEd d ∈ aug (minRoom (Eds l) n.from_ (-1) ks) (Eds l) n.from_ ks := by rw [← augL_ed]; exact List.mem_map_of_mem hd
        have hc := f1.cap _ he
        have hdm : d.drain ∈ n.drains := by rw [← h.drains, ← augL_drains (m := minRoom (Eds l) n.from_ (-1) ks) ks l n.from_]; exact List.mem_map_of_mem hd
        have := hn.dr _ hdm
        exact ⟨hc.1, hc.2, this.2.2.2.2⟩
      have hf' : FlowL n (augL (minRoom (Eds l) n.from_ (-1) ks) l n.from_ ks) := ⟨by rw [augL_drains]; exact h.drains, by rw [augL_ed]; exact f1, hcaps⟩
      obtain ⟨l', l1, l2⟩ := ih (augL (minRoom (Eds l) n.from_ (-1) ks) l n.from_ ks) k hf' (by rw [augL_ed, f2, alike_cut _ f3]; omega) (by omega)
      refine ⟨l', ?_, l2⟩
      rw [← l1]
      show drain_run_B3 n (drain_run_L3 n k) l = _
      unfold drain_run_B3
      rw [bnd_eq k3, if_neg (by unfold ints; simpa using k1)]
      have e1 := run_L2 (n := n) h.caps (drain_run_L3 n k) k2 ks [] [] n.from_ n.to_ (-1) FU rfl k4 (by have := FU_pos; omega)
      have e2 := run_L1 (drain_run_L3 n k) k2 (m := minRoom (Eds l) n.from_ (-1) ks) ⟨by omega, hm1000⟩ ks [] [] n.from_ n.to_ l FU rfl h.caps k4 m3 (by have := FU_pos; omega)
      refine Eq.trans e1 ?_
      unfold drain_run_k2
      exact e2
    · refine ⟨l, ?_, h, S, k2⟩
      show drain_run_B3 n (drain_run_L3 n k) l = _
      unfold drain_run_B3
      rw [bnd_eq k1, if_pos rfl]
def start (n : Net) : List Left := n.drains.map fun d => ⟨d, 0⟩
theorem out_zero (v : Int) : ∀ l : List Drain, out (Eds (l.map fun d => ⟨d, 0⟩)) v = 0
  | [] => rfl
  | d :: r => by
    have := out_zero v r
    unfold Eds at this ⊢
    simp only [List.map_cons, out, this]
    show ((if d.from_ = v then (0 : Int) else 0) - (if d.to_ = v then 0 else 0)) + 0 = 0
    split <;> split <;> rfl
theorem start_flow {n : Net} (hn : Net0 n) : FlowL n (start n) := by
  have h2 := hn.n2
  refine ⟨by unfold start; rw [List.map_map]; exact List.map_id _, ⟨fun e he => ?_, fun e he => ?_, fun v _ _ _ _ => out_zero v _⟩, fun d hd => ?_⟩
  · obtain ⟨x, hx, rfl⟩ := List.mem_map.1 he
    obtain ⟨d, hd, rfl⟩ := List.mem_map.1 hx
    have := hn.dr d hd
    refine ⟨⟨this.1.1, ?_⟩, this.2.1.1, ?_⟩
    · show d.from_ < _; omega
    · show d.to_ < _; omega
  · obtain ⟨x, hx, rfl⟩ := List.mem_map.1 he
    obtain ⟨d, hd, rfl⟩ := List.mem_map.1 hx
    have := hn.dr d hd
    exact ⟨Int.le_refl _, this.2.2.2.1⟩
  · obtain ⟨x, hx, rfl⟩ := List.mem_map.1 hd
    have := hn.dr x hx
    exact ⟨Int.le_refl _, this.2.2.2.1, this.2.2.2.2⟩
theorem cut_bnd (S : Int → Bool) : ∀ (l : List Left), (∀ d ∈ l, 0 ≤ d.drain.width ∧ d.drain.width ≤ 1000) → 0 ≤ cutW S (Eds l) ∧ cutW S (Eds l) ≤ 1000 * (l.length : Int)
  | [], _ => ⟨Int.le_refl _, Int.le_refl _⟩
  | d :: r, h => by
    have ih := cut_bnd S r (fun x hx => h x (List.mem_cons_of_mem _ hx))
    have := h d (List.mem_cons_self ..)
    have e : cutW S (Eds (d :: r)) = (if S d.drain.from_ = true ∧ S d.drain.to_ = false then d.drain.width else 0) + cutW S (Eds r) := rfl
    rw [e, List.length_cons]
    split <;> omega
theorem run_eq {n : Net} (hn : Net0 n) : ∃ l, drain_run n = some l ∧ Maxed n l := by
  have hlen := hn.len
  have hf := start_flow hn
  have hb := cut_bnd (fun v => decide (v = n.from_)) (start n) (fun d hd => by have := hf.caps d hd; omega)
  have hsl : (start n).length = n.drains.length := by unfold start; simp
  obtain ⟨l, l1, l2⟩ := run_L3 hn 16000 (start n) FU hf (by unfold start; rw [out_zero]; have := hb.2; unfold start at this; simp only [List.length_map] at this; omega) (by have := FU_pos; omega)
  refine ⟨l, ?_, l2⟩
  unfold drain_run
  refine Eq.trans (for0 n.drains.length (fun i => (start n).take i) (fun k s i => drain_run_L4 n k i s) (some l) rfl (fun k i hi => ?_) (fun k => ?_) (by omega)) rfl
  · have hx : n.drains[i]? = some n.drains[i] := by simp [hi]
    have hs : (start n)[i]? = some ⟨n.drains[i], 0⟩ := by unfold start; rw [List.getElem?_map, hx]; rfl
    show drain_run_B4 n (drain_run_L4 n k) _ _ = _
    unfold drain_run_B4
    rw [if_pos (by omega), ix_nat hx, gd_pos (by simp; omega), gd_pos (by omega), List.take_add_one, hs]; rfl
  · show drain_run_B4 n (drain_run_L4 n k) _ _ = _
    unfold drain_run_B4
    rw [if_neg (by omega)]
    unfold drain_run_k5
    rw [List.take_of_length_le (by omega)]; exact l1
end Go.D2

set_option linter.unusedVariables false
set_option linter.unusedSimpArgs false
namespace Go.D2
open Go.Tb
def En (n : Net) (fl : List Int) : List Ed := List.zipWith (fun d f => (⟨d.from_, d.to_, d.width, f⟩ : Ed)) n.drains fl
theorem en_at {n : Net} {fl : List Int} {i : Nat} {d : Drain} {f : Int} (h1 : n.drains[i]? = some d) (h2 : fl[i]? = some f) : (En n fl)[i]? = some ⟨d.from_, d.to_, d.width, f⟩ := by
  unfold En
  rw [List.getElem?_zipWith, h1, h2]
theorem en_len {n : Net} {fl : List Int} (h : fl.length = n.drains.length) : (En n fl).length = n.drains.length := by unfold En; simp; omega
theorem eds_en : ∀ (l : List Left), Eds l = List.zipWith (fun d f => (⟨d.from_, d.to_, d.width, f⟩ : Ed)) (l.map Left.drain) (l.map Left.runs)
  | [] => rfl
  | d :: r => by
    have := eds_en r
    unfold Eds at this ⊢
    simp only [List.map_cons, List.zipWith_cons_cons, this]; rfl
theorem flowL_en {n : Net} {l : List Left} (h : l.map Left.drain = n.drains) : Eds l = En n (l.map Left.runs) := by
  rw [eds_en, h]; rfl
theorem flowOf_eq {l : List Left} (hl : l.length ≤ 1000) : drain_flowOf l = some (l.map Left.runs) := by
  unfold drain_flowOf
  refine Eq.trans (for0 l.length (fun i => (l.map Left.runs).take i) (fun n s i => drain_flowOf_L1 l n i s) (some (l.map Left.runs)) rfl (fun n i hi => ?_) (fun n => ?_) (by omega)) rfl
  · have hx : l[i]? = some l[i] := by simp [hi]
    have hs : (l.map Left.runs)[i]? = some l[i].runs := by rw [List.getElem?_map, hx]; rfl
    show drain_flowOf_B1 l (drain_flowOf_L1 l n) _ _ = _
    unfold drain_flowOf_B1
    rw [if_pos (by omega), ix_nat hx, gd_pos (by simp; omega), gd_pos (by omega), List.take_add_one, hs]; rfl
  · show drain_flowOf_B1 l (drain_flowOf_L1 l n) _ _ = _
    unfold drain_flowOf_B1
    rw [if_neg (by omega)]
    unfold drain_flowOf_k1
    rw [List.take_of_length_le (by simp)]
theorem out_take {e : Ed} (v : Int) : ∀ {E : List Ed} {i : Nat}, E[i]? = some e → out (E.take (i + 1)) v = out (E.take i) v + con1 e v
  | [], i, h => by simp at h
  | x :: r, 0, h => by simp at h; subst h; simp [out, con1]
  | x :: r, i + 1, h => by
    have := out_take (e := e) v (E := r) (i := i) (by simpa using h)
    simp only [List.take_succ_cons, out_cons, this]; omega
theorem out_bnd {M : Int} (hM : 0 ≤ M) (v : Int) : ∀ E : List Ed, (∀ e ∈ E, -M ≤ e.f ∧ e.f ≤ M) → -(2 * M) * (E.length : Int) ≤ out E v ∧ out E v ≤ 2 * M * (E.length : Int)
  | [], _ => by simp [out]
  | e :: r, h => by
    have ih := out_bnd hM v r (fun x hx => h x (List.mem_cons_of_mem _ hx))
    have he := h e (List.mem_cons_self ..)
    have e1 : ((List.length (e :: r) : Nat) : Int) = (r.length : Int) + 1 := by simp
    rw [out_cons, e1, Int.mul_add, Int.mul_add]
    have : -(2 * M) ≤ con1 e v ∧ con1 e v ≤ 2 * M := by
      unfold con1
      split <;> split <;> omega
    omega
def FBnd (fl : List Int) : Prop := ∀ x ∈ fl, -1000000 ≤ x ∧ x ≤ 1000000
theorem en_bnd {n : Net} {fl : List Int} (h : FBnd fl) : ∀ e ∈ En n fl, -1000000 ≤ e.f ∧ e.f ≤ 1000000 := fun e he => by
  obtain ⟨i, hi⟩ := List.getElem?_of_mem he
  unfold En at hi
  rw [List.getElem?_zipWith] at hi
  cases h1 : n.drains[i]? with
  | none => rw [h1] at hi; cases hi
  | some d =>
    cases h2 : fl[i]? with
    | none => rw [h1, h2] at hi; cases hi
    | some f =>
      rw [h1, h2] at hi; cases hi
      exact h f (List.mem_of_getElem? h2)
theorem part_bnd {n : Net} {fl : List Int} (h : FBnd fl) (hl : n.drains.length ≤ 1000) (v : Int) (i : Nat) : -2000000000 ≤ out ((En n fl).take i) v ∧ out ((En n fl).take i) v ≤ 2000000000 := by
  have := out_bnd (M := 1000000) (by omega) v ((En n fl).take i) (fun e he => en_bnd h e (List.mem_of_mem_take he))
  have h2 : ((En n fl).take i).length ≤ 1000 := by
    rw [List.length_take]
    have : (En n fl).length ≤ n.drains.length := by unfold En; simp; omega
    omega
  omega
theorem value_eq {n : Net} {fl : List Int} (hf : fl.length = n.drains.length) (hl : n.drains.length ≤ 1000) (hb : FBnd fl) (v : Int) : drain_value n fl v = some (out (En n fl) v) := by
  have hE := en_len hf
  unfold drain_value
  refine Eq.trans (for0 n.drains.length (fun i => out ((En n fl).take i) v) (fun k s i => drain_value_L1 n fl v k s i) (some (out (En n fl) v)) rfl (fun k i hi => ?_) (fun k => ?_) (by omega)) rfl
  · have hx : n.drains[i]? = some n.drains[i] := by simp [hi]
    have hy : fl[i]? = some (fl[i]'(by omega)) := List.getElem?_eq_getElem _
    have he := out_take v (en_at hx hy)
    have b1 := part_bnd hb hl v i
    have b2 := hb _ (List.mem_of_getElem? hy)
    show drain_value_B1 n fl v (drain_value_L1 n fl v k) _ _ = _
    unfold drain_value_B1 drain_value_k3 drain_value_k2
    rw [if_pos (by omega), ix_nat hx, he]
    unfold con1
    simp only
    by_cases h1 : n.drains[i].from_ = v
    · rw [if_pos h1, ix_nat hy, gd_pos (by omega), if_pos h1]
      by_cases h2 : n.drains[i].to_ = v
      · rw [if_pos h2, ix_nat hy, gd_pos (by omega), gd_pos (by omega), if_pos h2]
        congr 1; omega
      · rw [if_neg h2, gd_pos (by omega), if_neg h2]
        congr 1; omega
    · rw [if_neg h1, if_neg h1]
      by_cases h2 : n.drains[i].to_ = v
      · rw [if_pos h2, ix_nat hy, gd_pos (by omega), gd_pos (by omega), if_pos h2]
        congr 1; omega
      · rw [if_neg h2, gd_pos (by omega), if_neg h2]
        congr 1; omega
  · show drain_value_B1 n fl v (drain_value_L1 n fl v k) _ _ = _
    unfold drain_value_B1
    rw [if_neg (by omega)]
    unfold drain_value_k1
    rw [List.take_of_length_le (by omega)]
def inS (m : Nat) (v : Int) : Bool := m.testBit v.toNat
theorem set_of : ∀ (k : Nat) (S : Nat → Bool), ∃ m, m < 2 ^ k ∧ ∀ v, v < k → m.testBit v = S v
  | 0, S => ⟨0, by decide, fun v hv => by omega⟩
  | k + 1, S => by
    obtain ⟨m, h1, h2⟩ := set_of k (fun v => S (v + 1))
    refine ⟨2 * m + (S 0).toNat, ?_, fun v hv => ?_⟩
    · rw [Nat.pow_succ]
      have : (S 0).toNat ≤ 1 := Bool.toNat_le _
      omega
    · cases v with
      | zero =>
        rw [Nat.testBit_zero]
        cases S 0 <;> simp
      | succ v =>
        rw [Nat.testBit_succ]
        have : (2 * m + (S 0).toNat) / 2 = m := by
          have : (S 0).toNat ≤ 1 := Bool.toNat_le _
          omega
        rw [this]; exact h2 v (by omega)
def cutD (S : Int → Bool) : List Drain → Int
  | [] => 0
  | d :: r => (if S d.from_ = true ∧ S d.to_ = false then d.width else 0) + cutD S r
theorem cutW_eds (S : Int → Bool) : ∀ l : List Left, cutW S (Eds l) = cutD S (l.map Left.drain)
  | [] => rfl
  | d :: r => by
    have := cutW_eds S r
    have e : cutW S (Eds (d :: r)) = (if S d.drain.from_ = true ∧ S d.drain.to_ = false then d.drain.width else 0) + cutW S (Eds r) := rfl
    rw [e, this]; rfl
theorem cutD_congr {S T : Int → Bool} : ∀ l : List Drain, (∀ d ∈ l, S d.from_ = T d.from_ ∧ S d.to_ = T d.to_) → cutD S l = cutD T l
  | [], _ => rfl
  | d :: r, h => by
    have := h d (List.mem_cons_self ..)
    simp only [cutD, this.1, this.2, cutD_congr r (fun x hx => h x (List.mem_cons_of_mem _ hx))]
theorem cutD_bnd (S : Int → Bool) : ∀ l : List Drain, (∀ d ∈ l, 0 ≤ d.width ∧ d.width ≤ 1000) → 0 ≤ cutD S l ∧ cutD S l ≤ 1000 * (l.length : Int)
  | [], _ => ⟨Int.le_refl _, Int.le_refl _⟩
  | d :: r, h => by
    have ih := cutD_bnd S r (fun x hx => h x (List.mem_cons_of_mem _ hx))
    have := h d (List.mem_cons_self ..)
    simp only [cutD, List.length_cons]
    split <;> omega
def cutB (n : Net) (m : Nat) : Bool := inS m n.from_ && !inS m n.to_
def bestC (n : Net) : Nat → Int
  | 0 => -1
  | i + 1 => if cutB n i = true then (if bestC n i < 0 ∨ cutD (inS i) n.drains < bestC n i then cutD (inS i) n.drains else bestC n i) else bestC n i
theorem bestC_spec {n : Net} (hn : Net0 n) : ∀ i, ((∀ j, j < i → cutB n j = false) ∧ bestC n i = -1) ∨ (0 ≤ bestC n i ∧ (∀ j, j < i → cutB n j = true → bestC n i ≤ cutD (inS j) n.drains) ∧ ∃ j, j < i ∧ cutB n j = true ∧ cutD (inS j) n.drains = bestC n i)
  | 0 => .inl ⟨fun j hj => by omega, rfl⟩
  | i + 1 => by
    have ih := bestC_spec hn i
    have hb := (cutD_bnd (inS i) n.drains (fun d hd => by have := hn.dr d hd; omega)).1
    simp only [bestC]
    by_cases hc : cutB n i = true
    · rw [if_pos hc]
      refine .inr ?_
      rcases ih with ⟨h1, h2⟩ | ⟨h1, h2, j, h3, h4, h5⟩
      · rw [if_pos (.inl (by omega))]
        refine ⟨hb, fun j hj hcj => ?_, i, by omega, hc, rfl⟩
        by_cases hji : j = i
        · subst hji; exact Int.le_refl _
        · rw [h1 j (by omega)] at hcj; cases hcj
      · by_cases hlt : cutD (inS i) n.drains < bestC n i
        · rw [if_pos (.inr hlt)]
          refine ⟨hb, fun j hj hcj => ?_, i, by omega, hc, rfl⟩
          by_cases hji : j = i
          · subst hji; exact Int.le_refl _
          · have := h2 j (by omega) hcj; omega
        · rw [if_neg (by omega)]
          refine ⟨h1, fun j hj hcj => ?_, j, by omega, h4, h5⟩
          by_cases hji : j = i
          · subst hji; omega
          · exact h2 j (by omega) hcj
    · rw [if_neg hc]
      rcases ih with ⟨h1, h2⟩ | ⟨h1, h2, j, h3, h4, h5⟩
      · refine .inl ⟨fun j hj => ?_, h2⟩
        by_cases hji : j = i
        · subst hji; simpa using hc
        · exact h1 j (by omega)
      · refine .inr ⟨h1, fun j hj hcj => ?_, j, by omega, h4, h5⟩
        by_cases hji : j = i
        · subst hji; exact absurd hcj hc
        · exact h2 j (by omega) hcj
def mostN (n : Net) : Int := bestC n (2 ^ n.nodes.toNat)
/-- A set as a number, and its width. -/
theorem cut_num {n : Net} (hn : Net0 n) (S : Int → Bool) : ∃ m, m < 2 ^ n.nodes.toNat ∧ (∀ v : Int, 0 ≤ v → v < n.nodes → inS m v = S v) ∧ cutD (inS m) n.drains = cutD S n.drains := by
  obtain ⟨m, h1, h2⟩ := set_of n.nodes.toNat (fun v => S (v : Int))
  have key : ∀ v : Int, 0 ≤ v → v < n.nodes → inS m v = S v := fun v v0 v1 => by
    unfold inS
    rw [h2 v.toNat (by omega), show ((v.toNat : Nat) : Int) = v by omega]
  exact ⟨m, h1, key, cutD_congr _ fun d hd => by have := hn.dr d hd; exact ⟨key _ this.1.1 this.1.2, key _ this.2.1.1 this.2.1.2⟩⟩
theorem most_le {n : Net} (hn : Net0 n) {S : Int → Bool} (h1 : S n.from_ = true) (h2 : S n.to_ = false) : mostN n ≤ cutD S n.drains := by
  obtain ⟨m, m1, m2, m3⟩ := cut_num hn S
  have hc : cutB n m = true := by
    unfold cutB
    rw [m2 _ hn.s0.1 hn.s0.2, m2 _ hn.t0.1 hn.t0.2, h1, h2]; rfl
  rcases bestC_spec hn (2 ^ n.nodes.toNat) with ⟨h3, _⟩ | ⟨_, h3, _⟩
  · rw [h3 m m1] at hc; cases hc
  · have := h3 m m1 hc
    rw [m3] at this; exact this
theorem most_at {n : Net} (hn : Net0 n) : ∃ S : Int → Bool, S n.from_ = true ∧ S n.to_ = false ∧ cutD S n.drains = mostN n := by
  obtain ⟨m, m1, m2, m3⟩ := cut_num hn (fun v => decide (v = n.from_))
  have hne := hn.ne
  have hc : cutB n m = true := by
    unfold cutB
    rw [m2 _ hn.s0.1 hn.s0.2, m2 _ hn.t0.1 hn.t0.2]; simp; omega
  rcases bestC_spec hn (2 ^ n.nodes.toNat) with ⟨h3, _⟩ | ⟨_, _, j, j1, j2, j3⟩
  · rw [h3 m m1] at hc; cases hc
  · unfold cutB at j2
    simp only [Bool.and_eq_true, Bool.not_eq_true'] at j2
    exact ⟨inS j, j2.1, j2.2, j3⟩
theorem maxed_val {n : Net} (hn : Net0 n) {l : List Left} (h : Maxed n l) : out (Eds l) n.from_ = mostN n := by
  obtain ⟨hf, S, s1, s2, s3, _⟩ := h
  have hs : 0 ≤ n.from_ ∧ n.from_ < ((n.nodes.toNat : Nat) : Int) := by have := hn.s0; omega
  have h1 : out (Eds l) n.from_ = cutW S (Eds l) := (tight_iff hf.flow hs s1 s2).2 ((closed_tight hf.flow.cap).1 s3)
  rw [cutW_eds, hf.drains] at h1
  have h2 := most_le hn s1 s2
  obtain ⟨T, t1, t2, t3⟩ := most_at hn
  have h3 := weak hf.flow hs t1 t2
  rw [cutW_eds, hf.drains, t3] at h3
  omega
theorem maxed_bnd {n : Net} {l : List Left} (h : Maxed n l) : FBnd (l.map Left.runs) := fun x hx => by
  obtain ⟨d, hd, rfl⟩ := List.mem_map.1 hx
  have := h.1.caps d hd
  omega
theorem maxed_len {n : Net} {l : List Left} (h : Maxed n l) : l.length = n.drains.length := by
  have := congrArg List.length h.1.drains
  simpa using this
theorem most_eq {n : Net} (hn : Net0 n) : drain_most n = some (mostN n) := by
  obtain ⟨l, l1, l2⟩ := run_eq hn
  have hl := hn.len
  have hll := maxed_len l2
  unfold drain_most
  rw [bnd_eq l1, bnd_eq (flowOf_eq (by omega)), bnd_eq (value_eq (by simpa using hll) (by omega) (maxed_bnd l2) _), ← flowL_en l2.1.drains, maxed_val hn l2]
end Go.D2

set_option linter.unusedVariables false
set_option linter.unusedSimpArgs false
namespace Go.D2
open Go.Tb
def mostR (n : Net) : Int × Int := if validate n = 0 then (mostN n, 0) else (0, validate n)
theorem Most_eq {n : Net} (hl : n.drains.length ≤ 1000) : drain_Most n = some (mostR n) := by
  unfold drain_Most mostR
  rw [bnd_eq (Validate_eq hl)]
  by_cases hv : validate n = 0
  · rw [if_pos hv, if_pos hv, bnd_eq (most_eq (val0.1 hv).toNet0)]
  · rw [if_neg hv, if_neg hv]
theorem Long_eq (n : Net) : law02_Long n = some (decide ((100 : Int) < (n.drains.length : Int))) := rfl
end Go.D2

set_option linter.unusedVariables false
set_option linter.unusedSimpArgs false
namespace Go.D2
open Go.Tb
theorem index_eq {l : List Int} (x : Int) (hl : l.length ≤ 1000) : ∀ (suf pre : List Int) (k : Nat), l = pre ++ suf → suf.length < k → ∃ i : Int, slices_Index_int_L1 l x k (pre.length : Int) = some i ∧ (0 ≤ i ↔ x ∈ suf)
  | [], pre, k + 1, h, hk => by
    refine ⟨-1, ?_, by simp⟩
    show slices_Index_int_B1 l x (slices_Index_int_L1 l x k) _ = _
    unfold slices_Index_int_B1
    rw [if_neg (by rw [h]; simp)]; rfl
  | y :: r, pre, k + 1, h, hk => by
    have hy : l[pre.length]? = some y := by rw [h, List.getElem?_append_right (Nat.le_refl _)]; simp
    have := lt_of_at hy
    obtain ⟨i, h1, h2⟩ := index_eq x hl r (pre ++ [y]) k (by rw [h]; simp) (by simp at hk; omega)
    have e : slices_Index_int_L1 l x (k + 1) (pre.length : Int) = slices_Index_int_B1 l x (slices_Index_int_L1 l x k) (pre.length : Int) := rfl
    rw [e]
    unfold slices_Index_int_B1
    rw [if_pos (by omega), ix_nat hy]
    by_cases hxy : x = y
    · rw [if_pos hxy]
      exact ⟨_, rfl, by simp [hxy]⟩
    · rw [if_neg hxy, gd_pos (by omega)]
      rw [show (((pre ++ [y]).length : Nat) : Int) = (pre.length : Int) + 1 by simp] at h1
      exact ⟨i, h1, by rw [h2]; simp [hxy]⟩
def mem (l : List Int) (x : Int) : Bool := decide (x ∈ l)
theorem contains_eq {l : List Int} (x : Int) (hl : l.length ≤ 1000) : slices_Contains_int l x = some (mem l x) := by
  obtain ⟨i, h1, h2⟩ := index_eq x hl l [] FU rfl (by have := FU_pos; omega)
  unfold slices_Contains_int slices_Index_int
  have h1' : slices_Index_int_L1 l x FU 0 = some i := h1
  rw [bnd_eq h1']
  congr 1
  unfold mem
  exact decide_eq_decide.2 h2
end Go.D2

set_option linter.unusedVariables false
set_option linter.unusedSimpArgs false
namespace Go.D2
open Go.Tb
theorem isNode_iff {n : Net} {x : Int} : isNode n x = true ↔ 0 ≤ x ∧ x < n.nodes := by
  unfold isNode
  rw [within_iff]; omega
end Go.D2

set_option linter.unusedVariables false
set_option linter.unusedSimpArgs false
namespace Go.D2
open Go.Tb
theorem Same_self {n : Net} (hl : n.drains.length ≤ 1000000) : ref02_Same n n = some true := by
  unfold ref02_Same
  rw [if_pos rfl, if_pos rfl, if_pos rfl]
  unfold ref02_Same_k2
  rw [if_neg (by simp), list_loop0 n.drains (fun _ => true) (ref02_Same_L1 n n) (some true) (some false) (fun k i x hx => ?_) (fun k => ?_) (by omega)]
  · rw [if_pos (by simp)]
  · have := lt_of_at hx
    show ref02_Same_B1 n n (ref02_Same_L1 n n k) _ = _
    unfold ref02_Same_B1
    rw [if_pos (by omega), ix_nat hx, ix_nat hx, if_pos (by simp), gd_pos (by omega), if_pos rfl]; rfl
  · show ref02_Same_B1 n n (ref02_Same_L1 n n k) _ = _
    unfold ref02_Same_B1
    rw [if_neg (by omega)]; rfl
end Go.D2

set_option linter.unusedVariables false
set_option linter.unusedSimpArgs false
namespace Go.D2
open Go.Tb
def named (i j v : Int) : Int := if v = j then (if j < i then i - 1 else i) else (if j < v then v - 1 else v)
theorem join1_eq {i j v : Int} (h : -1000 ≤ v ∧ v ≤ 1000 ∧ -1000 ≤ i ∧ i ≤ 1000) : drain_Join_1 j i v = some (named i j v) := by
  unfold drain_Join_1 drain_Join_1_k2 drain_Join_1_k1 named
  by_cases h1 : v = j
  · rw [if_pos h1, if_pos h1]
    by_cases h2 : j < i
    · rw [if_pos h2, if_pos h2, gd_pos (by omega)]
    · rw [if_neg h2, if_neg h2]
  · rw [if_neg h1, if_neg h1]
    by_cases h2 : j < v
    · rw [if_pos h2, if_pos h2, gd_pos (by omega)]
    · rw [if_neg h2, if_neg h2]
theorem named_eq {i j v : Int} (h : -1000 ≤ v ∧ v ≤ 1000 ∧ -1000 ≤ i ∧ i ≤ 1000) : ref02_named v i j = some (named i j v) := by
  unfold ref02_named ref02_named_k2 ref02_named_k1 named
  by_cases h1 : v = j
  · rw [if_pos h1, if_pos h1]
    by_cases h2 : j < i
    · rw [if_pos h2, if_pos h2, gd_pos (by omega)]
    · rw [if_neg h2, if_neg h2]
  · rw [if_neg h1, if_neg h1]
    by_cases h2 : j < v
    · rw [if_pos h2, if_pos h2, gd_pos (by omega)]
    · rw [if_neg h2, if_neg h2]
def joinD (i j : Int) (d : Drain) : Option Drain := if named i j d.from_ = named i j d.to_ then none else some ⟨named i j d.from_, named i j d.to_, d.width⟩
def joined (n : Net) (i j : Int) : Net := ⟨n.nodes - 1, named i j n.from_, named i j n.to_, n.drains.filterMap (joinD i j)⟩
theorem fm_take {α β : Type} {f : α → Option β} {l : List α} {i : Nat} {x : α} (h : l[i]? = some x) : (l.take (i + 1)).filterMap f = (l.take i).filterMap f ++ (f x).toList := by
  rw [List.take_add_one, h, List.filterMap_append]
  congr 1
def bad (n : Net) (i j : Int) : Bool := decide (i = j) || (decide (i = n.from_) && decide (j = n.to_)) || (decide (i = n.to_) && decide (j = n.from_))
def joinR (n : Net) (i j : Int) : Net × Int :=
  if validate n = 0 then (if isNode n i && isNode n j then (if bad n i j = true then (⟨0, 0, 0, []⟩, 1) else (joined n i j, 0)) else (⟨0, 0, 0, []⟩, 4)) else (⟨0, 0, 0, []⟩, validate n)
theorem pair_mem (a b x : Int) : slices_Contains_int [a, b] x = some (decide (x = a) || decide (x = b)) := by
  rw [contains_eq x (by simp)]
  congr 1
  unfold mem
  rw [Bool.eq_iff_iff]; simp
theorem Join_eq {n : Net} (hl : n.drains.length ≤ 1000) (i j : Int) : drain_Join n i j = some (joinR n i j) := by
  unfold drain_Join joinR
  rw [bnd_eq (Validate_eq hl)]
  by_cases hv : validate n = 0
  · have hn := val0.1 hv
    have h2 := hn.n2
    have h8 := hn.n8
    have hr : InR (n.nodes - 1) := by omega
    rw [if_pos hv, if_pos hv, bnd_eq (isNode_eq hr _)]
    unfold drain_Join_k6
    cases hi : isNode n i
    · rw [if_neg (by simp), if_pos rfl, if_neg (by simp)]
    · rw [if_pos rfl, bnd_eq (isNode_eq hr _)]
      cases hj : isNode n j
      · rw [if_pos (by rfl), if_neg (by simp)]
      · rw [if_neg (by simp), if_pos (show (true && true) = true from rfl)]
        have hi := isNode_iff.1 hi
        have hj := isNode_iff.1 hj
        have hs := hn.s0
        have ht := hn.t0
        have body : drain_Join_k5 n i j false = some (joined n i j, 0) := by
          unfold drain_Join_k5
          rw [if_neg (by simp), gd_pos hr, bnd_eq (join1_eq (by omega)), bnd_eq (join1_eq (by omega))]
          unfold drain_Join_k4
          refine for0 n.drains.length (fun q => (n.drains.take q).filterMap (joinD i j)) (fun k s q => drain_Join_L1 n i j (named i j n.from_) (named i j n.to_) k q s) _ rfl (fun k q hq => ?_) (fun k => ?_) (by omega)
          · have hx : n.drains[q]? = some n.drains[q] := by simp [hq]
            have hd := hn.dr _ (List.getElem_mem hq)
            have hll := List.length_filterMap_le (joinD i j) (n.drains.take q)
            rw [List.length_take] at hll
            show drain_Join_B1 n i j (named i j n.from_) (named i j n.to_) (drain_Join_L1 n i j (named i j n.from_) (named i j n.to_) k) _ _ = _
            unfold drain_Join_B1 drain_Join_k3 drain_Join_k2
            rw [if_pos (by omega), ix_nat hx, bnd_eq (join1_eq (by omega)), bnd_eq (join1_eq (by omega)), fm_take hx]
            unfold joinD
            by_cases h1 : named i j n.drains[q].from_ = named i j n.drains[q].to_
            · rw [if_pos h1, gd_pos (by omega), if_pos h1]; simp
            · rw [if_neg h1, gd_pos (by unfold joinD at hll; simp; omega), gd_pos (by omega), if_neg h1]; rfl
          · show drain_Join_B1 n i j (named i j n.from_) (named i j n.to_) (drain_Join_L1 n i j (named i j n.from_) (named i j n.to_) k) _ _ = _
            unfold drain_Join_B1
            rw [if_neg (by omega), List.take_length]; rfl
        have yes : drain_Join_k5 n i j true = some (⟨0, 0, 0, []⟩, 1) := rfl
        by_cases h1 : i = j
        · rw [if_pos h1, yes, if_pos (by unfold bad; simp [h1])]
        · have hne := hn.ne
          rw [if_neg h1, bnd_eq (pair_mem _ _ _)]
          by_cases h3 : i = n.from_
          · rw [if_pos (by simp [h3]), bnd_eq (pair_mem _ _ _)]
            by_cases h4 : j = n.to_
            · rw [show (decide (j = n.from_) || decide (j = n.to_)) = true by simp [h4], yes, if_pos (by unfold bad; simp [h3, h4])]
            · rw [show (decide (j = n.from_) || decide (j = n.to_)) = false by simp [h4]; omega, body, if_neg (by unfold bad; simp [h1, h4]; omega)]
          · by_cases h4 : i = n.to_
            · rw [if_pos (by simp [h4]), bnd_eq (pair_mem _ _ _)]
              by_cases h5 : j = n.from_
              · rw [show (decide (j = n.from_) || decide (j = n.to_)) = true by simp [h5], yes, if_pos (by unfold bad; simp [h4, h5])]
              · rw [show (decide (j = n.from_) || decide (j = n.to_)) = false by simp [h5]; omega, body, if_neg (by unfold bad; simp [h1, h3, h5])]
            · rw [if_neg (by simp [h3, h4]), body, if_neg (by unfold bad; simp [h1, h3, h4])]
  · rw [if_neg hv, if_neg hv]
theorem rJoin_eq {n : Net} (hl : n.drains.length ≤ 1000) (i j : Int) : ref02_Join n i j = some (joinR n i j) := by
  unfold ref02_Join joinR
  rw [bnd_eq (rValidate_eq hl)]
  by_cases hv : validate n = 0
  · have hn := val0.1 hv
    have h2 := hn.n2
    have h8 := hn.n8
    have hr : InR (n.nodes - 1) := by omega
    have hw : ∀ x, within x 0 (n.nodes - 1) = isNode n x := fun x => rfl
    rw [if_pos hv, if_pos hv, gd_pos hr, bnd_eq (within_eq _ _ _), hw]
    unfold ref02_Join_k5
    cases hi : isNode n i
    · rw [if_neg (by simp), if_pos rfl, if_neg (by simp)]
    · rw [if_pos rfl, gd_pos hr, bnd_eq (within_eq _ _ _), hw]
      cases hj : isNode n j
      · rw [if_pos (by rfl), if_neg (by simp)]
      · rw [if_neg (by simp), if_pos (show (true && true) = true from rfl)]
        have hi := isNode_iff.1 hi
        have hj := isNode_iff.1 hj
        have hs := hn.s0
        have ht := hn.t0
        have body : ref02_Join_k4 n i j false = some (joined n i j, 0) := by
          unfold ref02_Join_k4
          rw [if_neg (by simp), gd_pos hr, bnd_eq (named_eq (by omega)), bnd_eq (named_eq (by omega))]
          unfold ref02_Join_k3
          refine for0 n.drains.length (fun q => (n.drains.take q).filterMap (joinD i j)) (fun k s q => ref02_Join_L1 n i j (named i j n.from_) (named i j n.to_) k q s) _ rfl (fun k q hq => ?_) (fun k => ?_) (by omega)
          · have hx : n.drains[q]? = some n.drains[q] := by simp [hq]
            have hd := hn.dr _ (List.getElem_mem hq)
            have hll := List.length_filterMap_le (joinD i j) (n.drains.take q)
            rw [List.length_take] at hll
            show ref02_Join_B1 n i j (named i j n.from_) (named i j n.to_) (ref02_Join_L1 n i j (named i j n.from_) (named i j n.to_) k) _ _ = _
            unfold ref02_Join_B1 ref02_Join_k2
            rw [if_pos (by omega), ix_nat hx, bnd_eq (named_eq (by omega)), bnd_eq (named_eq (by omega)), fm_take hx]
            unfold joinD
            by_cases h1 : named i j n.drains[q].from_ = named i j n.drains[q].to_
            · rw [if_pos h1, gd_pos (by omega), if_pos h1]; simp
            · rw [if_neg h1, gd_pos (by unfold joinD at hll; simp; omega), gd_pos (by omega), if_neg h1]; rfl
          · show ref02_Join_B1 n i j (named i j n.from_) (named i j n.to_) (ref02_Join_L1 n i j (named i j n.from_) (named i j n.to_) k) _ _ = _
            unfold ref02_Join_B1
            rw [if_neg (by omega), List.take_length]; rfl
        have yes : ref02_Join_k4 n i j true = some (⟨0, 0, 0, []⟩, 1) := rfl
        by_cases h1 : i = j
        · rw [if_pos h1, yes, if_pos (by unfold bad; simp [h1])]
        · have hne := hn.ne
          rw [if_neg h1]
          by_cases h3 : i = n.from_
          · rw [if_pos h3]
            by_cases h4 : j = n.to_
            · rw [if_pos h4, yes, if_pos (by unfold bad; simp [h3, h4])]
            · rw [if_neg h4, if_neg (by omega), body, if_neg (by unfold bad; simp [h1, h4]; omega)]
          · rw [if_neg h3]
            by_cases h4 : i = n.to_
            · rw [if_pos h4]
              by_cases h5 : j = n.from_
              · rw [decide_eq_true h5, yes, if_pos (by unfold bad; simp [h4, h5])]
              · rw [decide_eq_false h5, body, if_neg (by unfold bad; simp [h1, h3, h5])]
            · rw [if_neg h4, body, if_neg (by unfold bad; simp [h1, h3, h4])]
  · rw [if_neg hv, if_neg hv]
theorem cutD_join (S : Int → Bool) (i j : Int) : ∀ l : List Drain, cutD S (l.filterMap (joinD i j)) = cutD (fun v => S (named i j v)) l
  | [] => rfl
  | d :: r => by
    have ih := cutD_join S i j r
    simp only [List.filterMap_cons, joinD]
    by_cases h : named i j d.from_ = named i j d.to_
    · rw [if_pos h]
      show cutD S (r.filterMap (joinD i j)) = _
      rw [ih]
      simp only [cutD]
      rw [if_neg (by rw [h]; intro hc; rw [hc.1] at hc; cases hc.2)]; omega
    · rw [if_neg h]
      show cutD S (_ :: r.filterMap (joinD i j)) = _
      simp only [cutD, ih]
theorem named_in {N i j v : Int} (hi : 0 ≤ i ∧ i < N) (hj : 0 ≤ j ∧ j < N) (hij : i ≠ j) (hv : 0 ≤ v ∧ v < N) : 0 ≤ named i j v ∧ named i j v < N - 1 := by
  unfold named
  split <;> split <;> omega
theorem named_ne {i j u v : Int} (hij : i ≠ j) (h : named i j u = named i j v) : u = v ∨ (u = i ∧ v = j) ∨ (u = j ∧ v = i) := by
  have key : ∀ w, (w = j ∧ j < i ∧ named i j w = i - 1) ∨ (w = j ∧ i ≤ j ∧ named i j w = i) ∨ (w ≠ j ∧ j < w ∧ named i j w = w - 1) ∨ (w ≠ j ∧ w ≤ j ∧ named i j w = w) := fun w => by
    unfold named
    split <;> split <;> omega
  rcases key u with ⟨a1, a2, a3⟩ | ⟨a1, a2, a3⟩ | ⟨a1, a2, a3⟩ | ⟨a1, a2, a3⟩ <;> rcases key v with ⟨b1, b2, b3⟩ | ⟨b1, b2, b3⟩ | ⟨b1, b2, b3⟩ | ⟨b1, b2, b3⟩ <;> rw [a3, b3] at h <;> omega
theorem joined_ok {n : Net} (hn : NetOk n) {i j : Int} (hi : isNode n i = true) (hj : isNode n j = true) (hb : ¬ bad n i j = true) : NetOk (joined n i j) := by
  have hi := isNode_iff.1 hi
  have hj := isNode_iff.1 hj
  have h2 := hn.n2
  have h8 := hn.n8
  have hs := hn.s0
  have ht := hn.t0
  unfold bad at hb
  simp only [Bool.or_eq_true, Bool.and_eq_true, decide_eq_true_eq, not_or, not_and] at hb
  obtain ⟨⟨b1, b2⟩, b3⟩ := hb
  have hne := hn.ne
  have mem_ : ∀ d ∈ (joined n i j).drains, ∃ d0 ∈ n.drains, named i j d0.from_ ≠ named i j d0.to_ ∧ d = ⟨named i j d0.from_, named i j d0.to_, d0.width⟩ := fun d hd => by
    obtain ⟨d0, h0, h1⟩ := List.mem_filterMap.1 hd
    unfold joinD at h1
    split at h1
    · cases h1
    · rename_i hq; cases h1; exact ⟨d0, h0, hq, rfl⟩
  refine { n2 := ?_, n8 := ?_, s0 := named_in hi hj b1 hs, t0 := named_in hi hj b1 ht, ne := fun e => ?_, len := ?_, dr := fun d hd => ?_, w20 := fun d hd => ?_ }
  · show 2 ≤ n.nodes - 1; omega
  · show n.nodes - 1 ≤ 8; omega
  · rcases named_ne b1 e with h | ⟨h3, h4⟩ | ⟨h3, h4⟩
    · exact hne h
    · exact b2 h3.symm h4.symm
    · exact b3 h4.symm h3.symm
  · have := List.length_filterMap_le (joinD i j) n.drains
    have := hn.len
    show (n.drains.filterMap (joinD i j)).length ≤ 16
    omega
  · obtain ⟨d0, h0, h1, rfl⟩ := mem_ d hd
    have := hn.dr d0 h0
    exact ⟨named_in hi hj b1 this.1, named_in hi hj b1 this.2.1, h1, this.2.2.2⟩
  · obtain ⟨d0, h0, h1, rfl⟩ := mem_ d hd
    exact hn.w20 d0 h0
theorem most_join {n : Net} (hn : NetOk n) {i j : Int} (h : NetOk (joined n i j)) : mostN n ≤ mostN (joined n i j) := by
  obtain ⟨T, t1, t2, t3⟩ := most_at h.toNet0
  have e : cutD T (joined n i j).drains = cutD (fun v => T (named i j v)) n.drains := cutD_join T i j n.drains
  rw [← t3, e]
  exact most_le hn.toNet0 (S := fun v => T (named i j v)) t1 t2
theorem law_DrainJoins (n : Net) (q : Two) (hb : n.drains.length ≤ 9223372036854775807) : law02_DrainJoins n q = some true := by
  unfold law02_DrainJoins
  rw [bnd_eq (Long_eq n)]
  by_cases hL : (100 : Int) < (n.drains.length : Int)
  · rw [if_pos (by simpa using hL), bnd_eq known_eq]
  · have hl : n.drains.length ≤ 1000 := by omega
    have hjl : (joinR n q.i q.j).1.drains.length ≤ 1000 := by
      have := List.length_filterMap_le (joinD q.i q.j) n.drains
      unfold joinR
      split
      · split
        · split
          · exact Nat.zero_le _
          · show (n.drains.filterMap (joinD q.i q.j)).length ≤ 1000
            omega
        · exact Nat.zero_le _
      · exact Nat.zero_le _
    rw [if_neg (by simpa using hL), bnd_eq (Join_eq hl _ _), bnd_eq (rJoin_eq hl _ _), bnd_eq (Same_self (by omega)), if_pos rfl]
    unfold law02_DrainJoins_k1
    rw [if_neg (by simp), bnd_eq (Most_eq hl), bnd_eq (Most_eq hjl)]
    by_cases h0 : (joinR n q.i q.j).2 = 0
    · rw [if_pos h0]
      unfold joinR at h0 ⊢
      split at h0
      · rename_i hv
        have hn := val0.1 hv
        split at h0
        · rename_i hij
          have hij' := hij
          rw [Bool.and_eq_true] at hij'
          split at h0
          · cases h0
          · rename_i hbad
            have hk := joined_ok hn hij'.1 hij'.2 hbad
            have e1 : mostR n = (mostN n, 0) := if_pos hv
            have e2 : mostR (joined n q.i q.j) = (mostN (joined n q.i q.j), 0) := if_pos (val0.2 hk)
            rw [if_pos hv, if_pos hij, if_neg hbad, e1, e2, if_pos rfl, if_pos rfl, if_pos (most_join hn hk), bnd_eq known_eq]
        · cases h0
      · rename_i hv; exact absurd h0 hv
    · rw [if_neg h0, bnd_eq known_eq]
end Go.D2
