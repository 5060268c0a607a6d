/- Lemmas and walks that the proof of this claim uses: D4x2, D4x3, D4x4, Tb22, D4p1, D4p2, D4p3, D4p4, D4p5, D4p6. -/
import Derived.Test.YtihcdffakmnkdaaCutProves4
set_option linter.unusedVariables false
set_option linter.unusedSimpArgs false
namespace Go.D4
open Go.Tb Go.Proofs Go.RowKit
theorem Tf101_0 : tyF Try.prog 101 0 = some 0 := by kernel_rfl
theorem Tf101_1 : tyF Try.prog 101 1 = some 2 := by kernel_rfl
theorem Tk101 : tyK Try.prog 101 = some (true, 4) := by kernel_rfl
theorem Tz101 : tyZ Try.prog 101 = some (.agg #[.int .i64 0, .int .i64 0, .int .i64 0, .int .i64 0]) := by kernel_rfl
set_option maxRecDepth 20000 in
set_option maxHeartbeats 1000000 in
theorem cut_payer_pay_ok {a0 : Payer} {a1 : Block} {A_a0_bog_worth : Option Addr} {c_a0_bog_worth : Nat} {b_a0_has : Nat} {b_a0_passed : Nat} {wb : World} {R : List Ck} {w : World} {res : Bool × (List (Block × Int)) × (List (Link × Int))} (h_a0_bog_worth : Sl2 wb A_a0_bog_worth c_a0_bog_worth 1 encN a0.bog.worth) (H : Hp wb w ([.mp b_a0_has (encMap ekBlock ekI a0.has), .mp b_a0_passed (encMap ekLink ekI a0.passed)] ++ R)) (F : cut_payer_pay a0 a1 = some res) : Calls Try.prog 95 #[.agg #[.slice A_a0_bog_worth a0.bog.worth.length c_a0_bog_worth, .map (some b_a0_has), .map (some b_a0_passed)], .agg #[.int .i64 a1.column, .int .i64 a1.row]] w (fun e w' => e = .returned (.bool res.1) ∧ Hp wb w' ([.mp b_a0_has (encMap ekBlock ekI res.2.1), .mp b_a0_passed (encMap ekLink ekI res.2.2)] ++ R)) := by
  refine calls_of_cw (args := [.agg #[.slice A_a0_bog_worth a0.bog.worth.length c_a0_bog_worth, .map (some b_a0_has), .map (some b_a0_passed)], .agg #[.int .i64 a1.column, .int .i64 a1.row]]) Try.func95 rfl rfl rfl rfl ?_
  have R0 := H.ext
  unfold cut_payer_pay at F
  refine CW.seq fun K1 hK1 => ?_
  refine CW.region ?_
  refine LW.go rfl rfl (OW.box rfl fun b1 w1 N1 => ?_)
  replace H := H.new N1 N1.blk
  replace R0 := H.ext
  refine LW.go rfl rfl (OW.box rfl fun b2 w2 N2 => ?_)
  replace H := H.new N2 N2.blk
  replace R0 := H.ext
  refine LW.pure rfl rfl (RV.assign rfl) ?_
  refine LW.nil (hK1 _ _ ?_)
  refine CW.seq fun K2 hK2 => ?_
  obtain ⟨r1, hr1, F⟩ := bnd_some F
  refine CW.region ?_
  refine LW.pure rfl rfl (RV.loadA [.slice A_a0_bog_worth a0.bog.worth.length c_a0_bog_worth, .map (some b_a0_has), .map (some b_a0_passed)] Tk98 rfl (H.blk 1 rfl).cells rfl rfl) ?_
  refine LW.pure rfl rfl (RV.loadA [.int .i64 a1.column, .int .i64 a1.row] Tk92 rfl (H.blk 0 rfl).cells rfl rfl) ?_
  refine LW.go rfl rfl (OW.makeMap fun b3 w3 N3 M1 => ?_)
  replace H : Hp wb w3 ([.mp b3 (encMap ekBlock ekBl (([] : List (Block × Bool)))), .blk b2 92 [.int .i64 a1.column, .int .i64 a1.row], .blk b1 98 [.slice A_a0_bog_worth a0.bog.worth.length c_a0_bog_worth, .map (some b_a0_has), .map (some b_a0_passed)], .mp b_a0_has (encMap ekBlock ekI a0.has), .mp b_a0_passed (encMap ekLink ekI a0.passed)] ++ R) := H.newM N3 M1
  replace R0 := H.ext
  replace H := H.pickR (C := [.mp b3 (encMap ekBlock ekBl (([] : List (Block × Bool)))), .blk b2 92 [.int .i64 a1.column, .int .i64 a1.row], .blk b1 98 [.slice A_a0_bog_worth a0.bog.worth.length c_a0_bog_worth, .map (some b_a0_has), .map (some b_a0_passed)], .mp b_a0_has (encMap ekBlock ekI a0.has), .mp b_a0_passed (encMap ekLink ekI a0.passed)]) (C' := [.mp b_a0_has (encMap ekBlock ekI a0.has), .mp b_a0_passed (encMap ekLink ekI a0.passed), .mp b3 (encMap ekBlock ekBl (([] : List (Block × Bool)))), .blk b2 92 [.int .i64 a1.column, .int .i64 a1.row], .blk b1 98 [.slice A_a0_bog_worth a0.bog.worth.length c_a0_bog_worth, .map (some b_a0_has), .map (some b_a0_passed)]]) [3, 4, 0, 1, 2] (by decide) rfl
  replace R0 := H.ext
  refine LW.go rfl rfl (OW.call Tc100 rfl (cut_payer_way_ok (a0 := a0) (a1 := a1) (a2 := ([] : List (Block × Bool))) (R := [.blk b2 92 [.int .i64 a1.column, .int .i64 a1.row], .blk b1 98 [.slice A_a0_bog_worth a0.bog.worth.length c_a0_bog_worth, .map (some b_a0_has), .map (some b_a0_passed)]] ++ R) h_a0_bog_worth H hr1) ?_)
  rintro _ w4 ⟨A3_0, c3_0, rfl, Hq1⟩
  refine ⟨_, rfl, ?_⟩
  replace H : Hp wb w4 ([.mp b_a0_has (encMap ekBlock ekI r1.2.2.1), .mp b_a0_passed (encMap ekLink ekI r1.2.2.2.1), .mp b3 (encMap ekBlock ekBl r1.2.2.2.2), .own A3_0 c3_0 101 4 (List.map encLink r1.1), .blk b2 92 [.int .i64 a1.column, .int .i64 a1.row], .blk b1 98 [.slice A_a0_bog_worth a0.bog.worth.length c_a0_bog_worth, .map (some b_a0_has), .map (some b_a0_passed)]] ++ R) := Hq1
  replace R0 := H.ext
  refine LW.pure rfl rfl (RV.move rfl) ?_
  refine LW.pure rfl rfl (RV.extract rfl rfl) ?_
  refine LW.pure rfl rfl (RV.extract rfl rfl) ?_
  refine LW.pure rfl rfl (RV.assign rfl) ?_
  refine LW.pure rfl rfl (RV.assign rfl) ?_
  refine LW.nil (hK2 _ _ ?_)
  refine CW.seq fun K3 hK3 => ?_
  refine CW.seq fun K4 hK4 => ?_
  refine CW.region ?_
  refine LW.pure rfl rfl (RV.move rfl) ?_
  refine LW.pure rfl rfl (RV.not rfl) ?_
  refine LW.nil (hK4 _ _ ?_)
  by_cases hp1 : r1.2.1 = true
  ·
    replace F := ite_y hp1 F
    have hq1 : r1.2.1 = true := hp1
    refine CW.condF rfl (not_f hq1) ?_
    refine CW.skip (hK3 _ _ ?_)
    refine CW.seq fun K5 hK5 => ?_
    obtain ⟨hg1, F⟩ := gd_some F
    obtain ⟨x1, hbx1, hx1, F⟩ := ix_some F
    refine CW.region ?_
    refine LW.pure rfl rfl (RV.move rfl) ?_
    refine LW.pure rfl rfl (RV.move rfl) ?_
    refine LW.pure rfl rfl (RV.len Ts106 rfl) ?_
    refine LW.pure rfl rfl (RV.sub rfl rfl hg1) ?_
    refine LW.pure rfl rfl (RV.indexAddr Ts106 rfl rfl hbx1 ((H.own 3 rfl).sl.addr_ hx1)) ?_
    refine LW.pure rfl rfl (RV.fieldAddr Tf101_1 rfl) ?_
    refine LW.pure rfl rfl (RV.loadA [.int .i64 x1.to_.column, .int .i64 x1.to_.row] Tk92 rfl (((H.own 3 rfl).sl.at_ hx1).off 2) rfl rfl) ?_
    refine LW.go rfl rfl (OW.alloc Tz92 fun b4 w5 N4 => ?_)
    replace H := H.new N4 N4.blk
    replace R0 := H.ext
    refine LW.go rfl rfl (OW.store Tk92 rfl rfl (H.blk 0 rfl) (off := 0) (vs := [.int .i64 x1.to_.column, .int .i64 x1.to_.row]) rfl rfl rfl rfl rfl fun w6 S1 => ?_)
    replace H : Hp wb w6 ([.blk b4 92 [.int .i64 x1.to_.column, .int .i64 x1.to_.row], .mp b_a0_has (encMap ekBlock ekI r1.2.2.1), .mp b_a0_passed (encMap ekLink ekI r1.2.2.2.1), .mp b3 (encMap ekBlock ekBl r1.2.2.2.2), .own A3_0 c3_0 101 4 (List.map encLink r1.1), .blk b2 92 [.int .i64 a1.column, .int .i64 a1.row], .blk b1 98 [.slice A_a0_bog_worth a0.bog.worth.length c_a0_bog_worth, .map (some b_a0_has), .map (some b_a0_passed)]] ++ R) := H.stored 0 rfl S1
    replace R0 := H.ext
    refine LW.nil (hK5 _ _ ?_)
    refine CW.seq fun K6 hK6 => ?_
    obtain ⟨hg2, F⟩ := gd_some F
    refine CW.draw [] (fun _ => True) (.cons 0 1 (.cons 1 1 (.cons 2 1 (.cons 3 1 (.cons 4 1 (.cons 5 1 (.cons 6 1 (.cons 7 1 (.cons 8 1 (.cons 9 1 (.cons 10 1 .nil))))))))))) mixed (by kernel_rfl) fun w7 E1 => ?_
    replace H := H.grow E1
    replace R0 := H.ext
    refine DW.fix rfl rfl rfl (fun _ EQ => RV.fieldAddr Tf98_1 rfl) ?_
    refine DW.fix rfl rfl rfl (fun _ EQ => RV.load1 Tk90 rfl (((H.grow EQ).blk 6 rfl).cells.off 1) rfl) ?_
    refine DW.fix rfl rfl rfl (fun _ EQ => RV.loadA [.int .i64 a1.column, .int .i64 a1.row] Tk92 rfl ((H.grow EQ).blk 5 rfl).cells rfl rfl) ?_
    refine DW.fix rfl rfl rfl (fun _ EQ => RV.lookupM (ek := ekBlock) (ev' := ekI) (eq := eqBlock) (m := r1.2.2.1) ((⟨a1.column, a1.row⟩ : Block)) 0 KO92 Tm90 Tz3 rfl rfl ((H.grow EQ).mp 1 rfl)) ?_
    refine DW.fix rfl rfl rfl (fun _ EQ => RV.fieldAddr Tf98_1 rfl) ?_
    refine DW.fix rfl rfl rfl (fun _ EQ => RV.load1 Tk90 rfl (((H.grow EQ).blk 6 rfl).cells.off 1) rfl) ?_
    refine DW.fix rfl rfl rfl (fun _ EQ => RV.loadA [.int .i64 x1.to_.column, .int .i64 x1.to_.row] Tk92 rfl ((H.grow EQ).blk 0 rfl).cells rfl rfl) ?_
    refine DW.fix rfl rfl rfl (fun _ EQ => RV.lookupM (ek := ekBlock) (ev' := ekI) (eq := eqBlock) (m := r1.2.2.1) ((⟨x1.to_.column, x1.to_.row⟩ : Block)) 0 KO92 Tm90 Tz3 rfl rfl ((H.grow EQ).mp 1 rfl)) ?_
    refine DW.fix rfl rfl rfl (fun _ EQ => RV.neg rfl hg2) ?_
    refine DW.fix rfl rfl rfl (fun _ EQ => RV.min2 rfl rfl) ?_
    refine DW.fix rfl rfl rfl (fun _ EQ => RV.assign rfl) ?_
    refine DW.nil (hK6 _ _ ?_)
    refine CW.seqJ (fun ρ wl1 => (∃ (t8_1 : Int), cut_payer_pay_k5 a1 r1 x1 t8_1 = some res ∧ ρ = [(2, .pointer (some (⟨b1, 0, none⟩))), (3, .pointer (some (⟨b2, 0, none⟩))), (4, .bool false), (5, .slice A3_0 r1.1.length c3_0), (7, .pointer (some (⟨b4, 0, none⟩))), (8, .int .i64 t8_1)] ∧ Hp wb wl1 ([.own A3_0 c3_0 101 4 (List.map encLink r1.1), .mp b_a0_has (encMap ekBlock ekI r1.2.2.1), .mp b_a0_passed (encMap ekLink ekI r1.2.2.2.1), .blk b1 98 [.slice A_a0_bog_worth a0.bog.worth.length c_a0_bog_worth, .map (some b_a0_has), .map (some b_a0_passed)], .blk b2 92 [.int .i64 a1.column, .int .i64 a1.row], .blk b4 92 [.int .i64 x1.to_.column, .int .i64 x1.to_.row]] ++ R))) ?_ ?_
    ·
      rintro _ wl1 ⟨t8_1, F, rfl, H⟩
      have R0 := H.ext
      unfold cut_payer_pay_k5 at F
      refine CW.seqJ (fun ρ wl2 => (cut_payer_pay_k4 a1 r1 x1 t8_1 = some res ∧ ρ = [(2, .pointer (some (⟨b1, 0, none⟩))), (4, .bool false), (5, .slice A3_0 r1.1.length c3_0), (7, .pointer (some (⟨b4, 0, none⟩))), (8, .int .i64 t8_1)] ∧ Hp wb wl2 ([.own A3_0 c3_0 101 4 (List.map encLink r1.1), .mp b_a0_has (encMap ekBlock ekI ((mset eqBlock r1.2.2.1 ((⟨a1.column, a1.row⟩ : Block)) (((mget eqBlock r1.2.2.1 ((⟨a1.column, a1.row⟩ : Block))).getD 0) - t8_1)))), .mp b_a0_passed (encMap ekLink ekI r1.2.2.2.1), .blk b1 98 [.slice A_a0_bog_worth a0.bog.worth.length c_a0_bog_worth, .map (some b_a0_has), .map (some b_a0_passed)], .blk b4 92 [.int .i64 x1.to_.column, .int .i64 x1.to_.row]] ++ R))) ?_ ?_
      ·
        rintro _ wl2 ⟨F, rfl, H⟩
        have R0 := H.ext
        unfold cut_payer_pay_k4 at F
        refine CW.seqJ (fun ρ wl3 => (cut_payer_pay_k3 a1 r1 x1 t8_1 = some res ∧ ρ = [(2, .pointer (some (⟨b1, 0, none⟩))), (4, .bool false), (5, .slice A3_0 r1.1.length c3_0), (8, .int .i64 t8_1)] ∧ Hp wb wl3 ([.own A3_0 c3_0 101 4 (List.map encLink r1.1), .mp b_a0_has (encMap ekBlock ekI ((mset eqBlock ((mset eqBlock r1.2.2.1 ((⟨a1.column, a1.row⟩ : Block)) (((mget eqBlock r1.2.2.1 ((⟨a1.column, a1.row⟩ : Block))).getD 0) - t8_1))) ((⟨x1.to_.column, x1.to_.row⟩ : Block)) (((mget eqBlock ((mset eqBlock r1.2.2.1 ((⟨a1.column, a1.row⟩ : Block)) (((mget eqBlock r1.2.2.1 ((⟨a1.column, a1.row⟩ : Block))).getD 0) - t8_1))) ((⟨x1.to_.column, x1.to_.row⟩ : Block))).getD 0) + t8_1)))), .mp b_a0_passed (encMap ekLink ekI r1.2.2.2.1), .blk b1 98 [.slice A_a0_bog_worth a0.bog.worth.length c_a0_bog_worth, .map (some b_a0_has), .map (some b_a0_passed)]] ++ R))) ?_ ?_
        ·
          rintro _ wl3 ⟨F, rfl, H⟩
          have R0 := H.ext
          unfold cut_payer_pay_k3 at F
          refine CW.seqJ (fun ρ wl4 => (∃ (m1 : List (Link × Int)), cut_payer_pay_k1 a1 r1 x1 t8_1 m1 = some res ∧ ρ = [(4, .bool false)] ∧ Hp wb wl4 ([.mp b_a0_has (encMap ekBlock ekI ((mset eqBlock ((mset eqBlock r1.2.2.1 ((⟨a1.column, a1.row⟩ : Block)) (((mget eqBlock r1.2.2.1 ((⟨a1.column, a1.row⟩ : Block))).getD 0) - t8_1))) ((⟨x1.to_.column, x1.to_.row⟩ : Block)) (((mget eqBlock ((mset eqBlock r1.2.2.1 ((⟨a1.column, a1.row⟩ : Block)) (((mget eqBlock r1.2.2.1 ((⟨a1.column, a1.row⟩ : Block))).getD 0) - t8_1))) ((⟨x1.to_.column, x1.to_.row⟩ : Block))).getD 0) + t8_1)))), .mp b_a0_passed (encMap ekLink ekI m1)] ++ R))) ?_ ?_
          ·
            rintro _ wl4 ⟨m1, F, rfl, H⟩
            have R0 := H.ext
            unfold cut_payer_pay_k1 at F
            refine CW.seq fun K7 hK7 => ?_
            refine CW.region ?_
            refine LW.pure rfl rfl (RV.assign rfl) ?_
            refine LW.nil (hK7 _ _ ?_)
            refine CW.ret ?_
            obtain rfl := Option.some.inj F
            refine ⟨_, (ResOK.one rfl), ?_⟩
            exact ⟨(by first | rfl | (simp; done) | (simp; omega)), H⟩
          ·
            intro K8 hK8 jK152
            refine CW.seq fun K9 hK9 => ?_
            refine CW.region ?_
            refine LW.pure rfl rfl (RV.move rfl) ?_
            refine LW.pure rfl rfl (RV.len Ts106 rfl) ?_
            refine LW.pure rfl rfl (RV.move rfl) ?_
            refine LW.nil (hK9 _ _ ?_)
            refine CW.block ?_
            refine CW.loop (fun meas ρ wl5 => ∃ (t81_1 : Int) (m3 : List (Link × Int)), cut_payer_pay_L1 a1 r1 x1 t8_1 meas t81_1 m3 = some res ∧ ρ = [(2, .pointer (some (⟨b1, 0, none⟩))), (4, .bool false), (8, .int .i64 t8_1), (79, .slice A3_0 r1.1.length c3_0), (80, .int .i64 ((r1.1.length : Int))), (81, .int .i64 t81_1)] ∧ Hp wb wl5 ([.own A3_0 c3_0 101 4 (List.map encLink r1.1), .mp b_a0_has (encMap ekBlock ekI ((mset eqBlock ((mset eqBlock r1.2.2.1 ((⟨a1.column, a1.row⟩ : Block)) (((mget eqBlock r1.2.2.1 ((⟨a1.column, a1.row⟩ : Block))).getD 0) - t8_1))) ((⟨x1.to_.column, x1.to_.row⟩ : Block)) (((mget eqBlock ((mset eqBlock r1.2.2.1 ((⟨a1.column, a1.row⟩ : Block)) (((mget eqBlock r1.2.2.1 ((⟨a1.column, a1.row⟩ : Block))).getD 0) - t8_1))) ((⟨x1.to_.column, x1.to_.row⟩ : Block))).getD 0) + t8_1)))), .mp b_a0_passed (encMap ekLink ekI m3), .blk b1 98 [.slice A_a0_bog_worth a0.bog.worth.length c_a0_bog_worth, .map (some b_a0_has), .map (some b_a0_passed)]] ++ R)) FU ⟨_, ?_, ((0 : Int)), r1.2.2.2.1, F, rfl, H⟩ ?_
            · exact ⟨rfl, rfl, rfl, (look_slice rfl (by first | rfl | (simp; done) | omega | (simp; omega))), rfl, rfl, trivial⟩
            rintro mk1 _ wl5 ⟨t81_1, m3, F, rfl, H⟩
            have R0 := H.ext
            replace F := cut_payer_pay_L1_s F
            obtain ⟨mk1, rfl, F⟩ := F
            generalize hrec1 : cut_payer_pay_L1 a1 r1 x1 t8_1 mk1 = rec1 at F
            unfold cut_payer_pay_B1 at F
            refine CW.seq fun K10 hK10 => ?_
            refine CW.region ?_
            refine LW.pure rfl rfl (RV.lss rfl rfl) ?_
            refine LW.nil (hK10 _ _ ?_)
            refine CW.seq fun K11 hK11 => ?_
            by_cases hp2 : t81_1 < ((r1.1.length : Int))
            ·
              replace F := ite_y hp2 F
              have hq2 := dec_t hp2
              refine CW.condT rfl hq2 ?_
              refine CW.skip (hK11 _ _ ?_)
              refine CW.seqJ (fun ρ wl6 => (∃ (m2 : List (Link × Int)), cut_payer_pay_k2 t81_1 rec1 m2 = some res ∧ ρ = [(2, .pointer (some (⟨b1, 0, none⟩))), (4, .bool false), (8, .int .i64 t8_1), (79, .slice A3_0 r1.1.length c3_0), (80, .int .i64 ((r1.1.length : Int))), (81, .int .i64 t81_1)] ∧ Hp wb wl6 ([.own A3_0 c3_0 101 4 (List.map encLink r1.1), .mp b_a0_has (encMap ekBlock ekI ((mset eqBlock ((mset eqBlock r1.2.2.1 ((⟨a1.column, a1.row⟩ : Block)) (((mget eqBlock r1.2.2.1 ((⟨a1.column, a1.row⟩ : Block))).getD 0) - t8_1))) ((⟨x1.to_.column, x1.to_.row⟩ : Block)) (((mget eqBlock ((mset eqBlock r1.2.2.1 ((⟨a1.column, a1.row⟩ : Block)) (((mget eqBlock r1.2.2.1 ((⟨a1.column, a1.row⟩ : Block))).getD 0) - t8_1))) ((⟨x1.to_.column, x1.to_.row⟩ : Block))).getD 0) + t8_1)))), .mp b_a0_passed (encMap ekLink ekI m2), .blk b1 98 [.slice A_a0_bog_worth a0.bog.worth.length c_a0_bog_worth, .map (some b_a0_has), .map (some b_a0_passed)]] ++ R))) ?_ ?_
              ·
                rintro _ wl6 ⟨m2, F, rfl, H⟩
                have R0 := H.ext
                unfold cut_payer_pay_k2 at F
                obtain ⟨hg3, F⟩ := gd_some F
                refine CW.region ?_
                refine LW.pure rfl rfl (RV.add rfl rfl hg3) ?_
                refine LW.pure rfl rfl (RV.move rfl) ?_
                refine LW.nil ?_
                subst hrec1
                refine ⟨mk1, Nat.lt_succ_self _, _, ?_, (t81_1 + 1), m2, F, rfl, H⟩
                exact ⟨rfl, rfl, rfl, (look_slice rfl (by first | rfl | (simp; done) | omega | (simp; omega))), rfl, rfl, trivial⟩
              ·
                intro K12 hK12 jK172
                refine CW.block ?_
                refine CW.seq fun K13 hK13 => ?_
                obtain ⟨x2, hbx2, hx2, F⟩ := ix_some F
                refine CW.region ?_
                refine LW.pure rfl rfl (RV.indexAddr Ts106 rfl rfl hbx2 ((H.own 0 rfl).sl.addr_ hx2)) ?_
                refine LW.pure rfl rfl (RV.loadA [.int .i64 x2.from_.column, .int .i64 x2.from_.row, .int .i64 x2.to_.column, .int .i64 x2.to_.row] Tk101 rfl ((H.own 0 rfl).sl.at_ hx2) rfl rfl) ?_
                refine LW.go rfl rfl (OW.alloc Tz101 fun b5 w8 N5 => ?_)
                replace H := H.new N5 N5.blk
                replace R0 := H.ext
                refine LW.go rfl rfl (OW.store Tk101 rfl rfl (H.blk 0 rfl) (off := 0) (vs := [.int .i64 x2.from_.column, .int .i64 x2.from_.row, .int .i64 x2.to_.column, .int .i64 x2.to_.row]) rfl rfl rfl rfl rfl fun w9 S2 => ?_)
                replace H : Hp wb w9 ([.blk b5 101 [.int .i64 x2.from_.column, .int .i64 x2.from_.row, .int .i64 x2.to_.column, .int .i64 x2.to_.row], .own A3_0 c3_0 101 4 (List.map encLink r1.1), .mp b_a0_has (encMap ekBlock ekI ((mset eqBlock ((mset eqBlock r1.2.2.1 ((⟨a1.column, a1.row⟩ : Block)) (((mget eqBlock r1.2.2.1 ((⟨a1.column, a1.row⟩ : Block))).getD 0) - t8_1))) ((⟨x1.to_.column, x1.to_.row⟩ : Block)) (((mget eqBlock ((mset eqBlock r1.2.2.1 ((⟨a1.column, a1.row⟩ : Block)) (((mget eqBlock r1.2.2.1 ((⟨a1.column, a1.row⟩ : Block))).getD 0) - t8_1))) ((⟨x1.to_.column, x1.to_.row⟩ : Block))).getD 0) + t8_1)))), .mp b_a0_passed (encMap ekLink ekI m3), .blk b1 98 [.slice A_a0_bog_worth a0.bog.worth.length c_a0_bog_worth, .map (some b_a0_has), .map (some b_a0_passed)]] ++ R) := H.stored 0 rfl S2
                replace R0 := H.ext
                refine LW.nil (hK13 _ _ ?_)
                refine CW.seq fun K14 hK14 => ?_
                refine CW.region ?_
                refine LW.pure rfl rfl (RV.fieldAddr Tf101_1 rfl) ?_
                refine LW.pure rfl rfl (RV.fieldAddr Tf92_1 rfl) ?_
                refine LW.pure rfl rfl (RV.load1 Tk3 rfl (((H.blk 0 rfl).cells.off 2).off 1) rfl) ?_
                refine LW.pure rfl rfl (RV.fieldAddr Tf101_0 rfl) ?_
                refine LW.pure rfl rfl (RV.fieldAddr Tf92_1 rfl) ?_
                refine LW.pure rfl rfl (RV.load1 Tk3 rfl (((H.blk 0 rfl).cells.off 0).off 1) rfl) ?_
                refine LW.pure rfl rfl (RV.gtr rfl rfl) ?_
                refine LW.nil (hK14 _ _ ?_)
                by_cases hp3 : x2.from_.row < x2.to_.row
                ·
                  replace F := ite_y hp3 F
                  have hq3 := dec_t hp3
                  refine CW.condT rfl hq3 ?_
                  obtain ⟨hg4, F⟩ := gd_some F
                  refine CW.draw [10, 12] (fun _ => True) (.cons 0 1 (.cons 1 1 (.cons 2 1 (.cons 3 1 (.cons 4 1 (.cons 5 1 (.cons 6 1 (.cons 8 1 (.alt 7 (.cons 9 2 (.cons 10 0 (.cons 11 2 (.cons 12 0 .nil)))) (.cons 10 0 (.cons 11 2 (.cons 7 0 (.cons 9 2 (.cons 12 0 .nil)))))))))))))) mixed (by kernel_rfl) fun w10 E2 => ?_
                  replace H := H.grow E2
                  replace R0 := H.ext
                  refine DW.fix rfl rfl rfl (fun _ EQ => RV.fieldAddr Tf98_2 rfl) ?_
                  refine DW.fix rfl rfl rfl (fun _ EQ => RV.load1 Tk96 rfl (((H.grow EQ).blk 4 rfl).cells.off 2) rfl) ?_
                  refine DW.fix rfl rfl rfl (fun _ EQ => RV.fieldAddr Tf101_1 rfl) ?_
                  refine DW.fix rfl rfl rfl (fun _ EQ => RV.loadA [.int .i64 x2.to_.column, .int .i64 x2.to_.row] Tk92 rfl (((H.grow EQ).blk 0 rfl).cells.off 2) rfl rfl) ?_
                  refine DW.fix rfl rfl rfl (fun _ EQ => RV.fieldAddr Tf101_0 rfl) ?_
                  refine DW.fix rfl rfl rfl (fun _ EQ => RV.loadA [.int .i64 x2.from_.column, .int .i64 x2.from_.row] Tk92 rfl (((H.grow EQ).blk 0 rfl).cells.off 0) rfl rfl) ?_
                  refine DW.fix rfl rfl rfl (fun _ EQ => RV.build (vs := [.agg #[.int .i64 x2.to_.column, .int .i64 x2.to_.row], .agg #[.int .i64 x2.from_.column, .int .i64 x2.from_.row]]) (cs := [.int .i64 x2.to_.column, .int .i64 x2.to_.row, .int .i64 x2.from_.column, .int .i64 x2.from_.row]) rfl (fun _ => by kernel_rfl)) ?_
                  refine DW.fix rfl rfl rfl (fun _ EQ => RV.move rfl) ?_
                  refine DW.alt ?_ ?_
                  ·
                    refine DW.sole rfl rfl rfl (OW.value (RV.lookupM (ek := ekLink) (ev' := ekI) (eq := eqLink) (m := m3) ((⟨(⟨x2.to_.column, x2.to_.row⟩ : Block), (⟨x2.from_.column, x2.from_.row⟩ : Block)⟩ : Link)) 0 KO101 Tm96 Tz3 rfl rfl (H.mp 3 rfl)) ⟨fun _ => Ext.refl _, ModX.refl _ _, ?_⟩)
                    refine DW.thru rfl rfl rfl (fun _ EQ => RV.sub rfl rfl hg4) ?_
                    refine DW.sole rfl rfl rfl (OW.entryM (ek := ekLink) (ev' := ekI) (eq := eqLink) (m := m3) ((⟨(⟨x2.to_.column, x2.to_.row⟩ : Block), (⟨x2.from_.column, x2.from_.row⟩ : Block)⟩ : Link)) 0 KO101 Tm96 Tz3 rfl rfl (H.mp 3 rfl) fun w11 bo1 M2 En1 => ?_)
                    refine ⟨fun h => absurd h (by decide), M2.modx (fun _ _ => trivial), ?_⟩
                    replace H : Hp wb w11 ([.blk b5 101 [.int .i64 x2.from_.column, .int .i64 x2.from_.row, .int .i64 x2.to_.column, .int .i64 x2.to_.row], .own A3_0 c3_0 101 4 (List.map encLink r1.1), .mp b_a0_has (encMap ekBlock ekI ((mset eqBlock ((mset eqBlock r1.2.2.1 ((⟨a1.column, a1.row⟩ : Block)) (((mget eqBlock r1.2.2.1 ((⟨a1.column, a1.row⟩ : Block))).getD 0) - t8_1))) ((⟨x1.to_.column, x1.to_.row⟩ : Block)) (((mget eqBlock ((mset eqBlock r1.2.2.1 ((⟨a1.column, a1.row⟩ : Block)) (((mget eqBlock r1.2.2.1 ((⟨a1.column, a1.row⟩ : Block))).getD 0) - t8_1))) ((⟨x1.to_.column, x1.to_.row⟩ : Block))).getD 0) + t8_1)))), eck b_a0_passed (encMap ekLink ekI (ment eqLink m3 ((⟨(⟨x2.to_.column, x2.to_.row⟩ : Block), (⟨x2.from_.column, x2.from_.row⟩ : Block)⟩ : Link)) 0)) (ekLink ((⟨(⟨x2.to_.column, x2.to_.row⟩ : Block), (⟨x2.from_.column, x2.from_.row⟩ : Block)⟩ : Link))) bo1, .blk b1 98 [.slice A_a0_bog_worth a0.bog.worth.length c_a0_bog_worth, .map (some b_a0_has), .map (some b_a0_passed)]] ++ R) := H.setE 3 rfl M2 En1
                    replace R0 := H.ext
                    refine DW.thru rfl rfl rfl (fun _ EQ => RV.extract rfl rfl) ?_
                    refine DW.sole rfl rfl rfl (OW.storeEnt (ek := ekLink) (ev' := ekI) (eq := eqLink) (m := m3) ((⟨(⟨x2.to_.column, x2.to_.row⟩ : Block), (⟨x2.from_.column, x2.from_.row⟩ : Block)⟩ : Link)) 0 (((mget eqLink m3 ((⟨(⟨x2.to_.column, x2.to_.row⟩ : Block), (⟨x2.from_.column, x2.from_.row⟩ : Block)⟩ : Link))).getD 0) - t8_1) KO101 rfl rfl rfl (H.ent 3 rfl) fun w12 M3 O1 => ?_)
                    refine ⟨fun h => absurd h (by decide), M3.modx (fun _ _ => trivial), ?_⟩
                    replace H : Hp wb w12 ([.blk b5 101 [.int .i64 x2.from_.column, .int .i64 x2.from_.row, .int .i64 x2.to_.column, .int .i64 x2.to_.row], .own A3_0 c3_0 101 4 (List.map encLink r1.1), .mp b_a0_has (encMap ekBlock ekI ((mset eqBlock ((mset eqBlock r1.2.2.1 ((⟨a1.column, a1.row⟩ : Block)) (((mget eqBlock r1.2.2.1 ((⟨a1.column, a1.row⟩ : Block))).getD 0) - t8_1))) ((⟨x1.to_.column, x1.to_.row⟩ : Block)) (((mget eqBlock ((mset eqBlock r1.2.2.1 ((⟨a1.column, a1.row⟩ : Block)) (((mget eqBlock r1.2.2.1 ((⟨a1.column, a1.row⟩ : Block))).getD 0) - t8_1))) ((⟨x1.to_.column, x1.to_.row⟩ : Block))).getD 0) + t8_1)))), .mp b_a0_passed (encMap ekLink ekI ((mset eqLink m3 ((⟨(⟨x2.to_.column, x2.to_.row⟩ : Block), (⟨x2.from_.column, x2.from_.row⟩ : Block)⟩ : Link)) (((mget eqLink m3 ((⟨(⟨x2.to_.column, x2.to_.row⟩ : Block), (⟨x2.from_.column, x2.from_.row⟩ : Block)⟩ : Link))).getD 0) - t8_1)))), .blk b1 98 [.slice A_a0_bog_worth a0.bog.worth.length c_a0_bog_worth, .map (some b_a0_has), .map (some b_a0_passed)]] ++ R) := H.setS 3 rfl M3 O1
                    replace R0 := H.ext
                    replace H := H.pickR (C := [.blk b5 101 [.int .i64 x2.from_.column, .int .i64 x2.from_.row, .int .i64 x2.to_.column, .int .i64 x2.to_.row], .own A3_0 c3_0 101 4 (List.map encLink r1.1), .mp b_a0_has (encMap ekBlock ekI ((mset eqBlock ((mset eqBlock r1.2.2.1 ((⟨a1.column, a1.row⟩ : Block)) (((mget eqBlock r1.2.2.1 ((⟨a1.column, a1.row⟩ : Block))).getD 0) - t8_1))) ((⟨x1.to_.column, x1.to_.row⟩ : Block)) (((mget eqBlock ((mset eqBlock r1.2.2.1 ((⟨a1.column, a1.row⟩ : Block)) (((mget eqBlock r1.2.2.1 ((⟨a1.column, a1.row⟩ : Block))).getD 0) - t8_1))) ((⟨x1.to_.column, x1.to_.row⟩ : Block))).getD 0) + t8_1)))), .mp b_a0_passed (encMap ekLink ekI ((mset eqLink m3 ((⟨(⟨x2.to_.column, x2.to_.row⟩ : Block), (⟨x2.from_.column, x2.from_.row⟩ : Block)⟩ : Link)) (((mget eqLink m3 ((⟨(⟨x2.to_.column, x2.to_.row⟩ : Block), (⟨x2.from_.column, x2.from_.row⟩ : Block)⟩ : Link))).getD 0) - t8_1)))), .blk b1 98 [.slice A_a0_bog_worth a0.bog.worth.length c_a0_bog_worth, .map (some b_a0_has), .map (some b_a0_passed)]]) (C' := [.own A3_0 c3_0 101 4 (List.map encLink r1.1), .mp b_a0_has (encMap ekBlock ekI ((mset eqBlock ((mset eqBlock r1.2.2.1 ((⟨a1.column, a1.row⟩ : Block)) (((mget eqBlock r1.2.2.1 ((⟨a1.column, a1.row⟩ : Block))).getD 0) - t8_1))) ((⟨x1.to_.column, x1.to_.row⟩ : Block)) (((mget eqBlock ((mset eqBlock r1.2.2.1 ((⟨a1.column, a1.row⟩ : Block)) (((mget eqBlock r1.2.2.1 ((⟨a1.column, a1.row⟩ : Block))).getD 0) - t8_1))) ((⟨x1.to_.column, x1.to_.row⟩ : Block))).getD 0) + t8_1)))), .mp b_a0_passed (encMap ekLink ekI ((mset eqLink m3 ((⟨(⟨x2.to_.column, x2.to_.row⟩ : Block), (⟨x2.from_.column, x2.from_.row⟩ : Block)⟩ : Link)) (((mget eqLink m3 ((⟨(⟨x2.to_.column, x2.to_.row⟩ : Block), (⟨x2.from_.column, x2.from_.row⟩ : Block)⟩ : Link))).getD 0) - t8_1)))), .blk b1 98 [.slice A_a0_bog_worth a0.bog.worth.length c_a0_bog_worth, .map (some b_a0_has), .map (some b_a0_passed)]]) [1, 2, 3, 4] (by decide) rfl
                    replace R0 := H.ext
                    refine DW.nil (jK172 _ _ ⟨_, ?_, ⟨((mset eqLink m3 ((⟨(⟨x2.to_.column, x2.to_.row⟩ : Block), (⟨x2.from_.column, x2.from_.row⟩ : Block)⟩ : Link)) (((mget eqLink m3 ((⟨(⟨x2.to_.column, x2.to_.row⟩ : Block), (⟨x2.from_.column, x2.from_.row⟩ : Block)⟩ : Link))).getD 0) - t8_1))), F, rfl, H⟩⟩)
                    exact ⟨rfl, rfl, rfl, (look_slice rfl (by first | rfl | (simp; done) | omega | (simp; omega))), rfl, rfl, trivial⟩
                  ·
                    refine DW.sole rfl rfl rfl (OW.entryM (ek := ekLink) (ev' := ekI) (eq := eqLink) (m := m3) ((⟨(⟨x2.to_.column, x2.to_.row⟩ : Block), (⟨x2.from_.column, x2.from_.row⟩ : Block)⟩ : Link)) 0 KO101 Tm96 Tz3 rfl rfl (H.mp 3 rfl) fun w13 bo2 M4 En2 => ?_)
                    refine ⟨fun h => absurd h (by decide), M4.modx (fun _ _ => trivial), ?_⟩
                    replace H : Hp wb w13 ([.blk b5 101 [.int .i64 x2.from_.column, .int .i64 x2.from_.row, .int .i64 x2.to_.column, .int .i64 x2.to_.row], .own A3_0 c3_0 101 4 (List.map encLink r1.1), .mp b_a0_has (encMap ekBlock ekI ((mset eqBlock ((mset eqBlock r1.2.2.1 ((⟨a1.column, a1.row⟩ : Block)) (((mget eqBlock r1.2.2.1 ((⟨a1.column, a1.row⟩ : Block))).getD 0) - t8_1))) ((⟨x1.to_.column, x1.to_.row⟩ : Block)) (((mget eqBlock ((mset eqBlock r1.2.2.1 ((⟨a1.column, a1.row⟩ : Block)) (((mget eqBlock r1.2.2.1 ((⟨a1.column, a1.row⟩ : Block))).getD 0) - t8_1))) ((⟨x1.to_.column, x1.to_.row⟩ : Block))).getD 0) + t8_1)))), eck b_a0_passed (encMap ekLink ekI (ment eqLink m3 ((⟨(⟨x2.to_.column, x2.to_.row⟩ : Block), (⟨x2.from_.column, x2.from_.row⟩ : Block)⟩ : Link)) 0)) (ekLink ((⟨(⟨x2.to_.column, x2.to_.row⟩ : Block), (⟨x2.from_.column, x2.from_.row⟩ : Block)⟩ : Link))) bo2, .blk b1 98 [.slice A_a0_bog_worth a0.bog.worth.length c_a0_bog_worth, .map (some b_a0_has), .map (some b_a0_passed)]] ++ R) := H.setE 3 rfl M4 En2
                    replace R0 := H.ext
                    refine DW.thru rfl rfl rfl (fun _ EQ => RV.extract rfl rfl) ?_
                    refine DW.sole rfl rfl rfl (OW.value (RV.lookupE (ek := ekLink) (ev' := ekI) (eq := eqLink) (m := m3) ((⟨(⟨x2.to_.column, x2.to_.row⟩ : Block), (⟨x2.from_.column, x2.from_.row⟩ : Block)⟩ : Link)) 0 KO101 Tm96 Tz3 rfl rfl (H.ent 3 rfl)) ⟨fun _ => Ext.refl _, ModX.refl _ _, ?_⟩)
                    refine DW.thru rfl rfl rfl (fun _ EQ => RV.sub rfl rfl hg4) ?_
                    refine DW.sole rfl rfl rfl (OW.storeEnt (ek := ekLink) (ev' := ekI) (eq := eqLink) (m := m3) ((⟨(⟨x2.to_.column, x2.to_.row⟩ : Block), (⟨x2.from_.column, x2.from_.row⟩ : Block)⟩ : Link)) 0 (((mget eqLink m3 ((⟨(⟨x2.to_.column, x2.to_.row⟩ : Block), (⟨x2.from_.column, x2.from_.row⟩ : Block)⟩ : Link))).getD 0) - t8_1) KO101 rfl rfl rfl (H.ent 3 rfl) fun w14 M5 O2 => ?_)
                    refine ⟨fun h => absurd h (by decide), M5.modx (fun _ _ => trivial), ?_⟩
                    replace H : Hp wb w14 ([.blk b5 101 [.int .i64 x2.from_.column, .int .i64 x2.from_.row, .int .i64 x2.to_.column, .int .i64 x2.to_.row], .own A3_0 c3_0 101 4 (List.map encLink r1.1), .mp b_a0_has (encMap ekBlock ekI ((mset eqBlock ((mset eqBlock r1.2.2.1 ((⟨a1.column, a1.row⟩ : Block)) (((mget eqBlock r1.2.2.1 ((⟨a1.column, a1.row⟩ : Block))).getD 0) - t8_1))) ((⟨x1.to_.column, x1.to_.row⟩ : Block)) (((mget eqBlock ((mset eqBlock r1.2.2.1 ((⟨a1.column, a1.row⟩ : Block)) (((mget eqBlock r1.2.2.1 ((⟨a1.column, a1.row⟩ : Block))).getD 0) - t8_1))) ((⟨x1.to_.column, x1.to_.row⟩ : Block))).getD 0) + t8_1)))), .mp b_a0_passed (encMap ekLink ekI ((mset eqLink m3 ((⟨(⟨x2.to_.column, x2.to_.row⟩ : Block), (⟨x2.from_.column, x2.from_.row⟩ : Block)⟩ : Link)) (((mget eqLink m3 ((⟨(⟨x2.to_.column, x2.to_.row⟩ : Block), (⟨x2.from_.column, x2.from_.row⟩ : Block)⟩ : Link))).getD 0) - t8_1)))), .blk b1 98 [.slice A_a0_bog_worth a0.bog.worth.length c_a0_bog_worth, .map (some b_a0_has), .map (some b_a0_passed)]] ++ R) := H.setS 3 rfl M5 O2
                    replace R0 := H.ext
                    replace H := H.pickR (C := [.blk b5 101 [.int .i64 x2.from_.column, .int .i64 x2.from_.row, .int .i64 x2.to_.column, .int .i64 x2.to_.row], .own A3_0 c3_0 101 4 (List.map encLink r1.1), .mp b_a0_has (encMap ekBlock ekI ((mset eqBlock ((mset eqBlock r1.2.2.1 ((⟨a1.column, a1.row⟩ : Block)) (((mget eqBlock r1.2.2.1 ((⟨a1.column, a1.row⟩ : Block))).getD 0) - t8_1))) ((⟨x1.to_.column, x1.to_.row⟩ : Block)) (((mget eqBlock ((mset eqBlock r1.2.2.1 ((⟨a1.column, a1.row⟩ : Block)) (((mget eqBlock r1.2.2.1 ((⟨a1.column, a1.row⟩ : Block))).getD 0) - t8_1))) ((⟨x1.to_.column, x1.to_.row⟩ : Block))).getD 0) + t8_1)))), .mp b_a0_passed (encMap ekLink ekI ((mset eqLink m3 ((⟨(⟨x2.to_.column, x2.to_.row⟩ : Block), (⟨x2.from_.column, x2.from_.row⟩ : Block)⟩ : Link)) (((mget eqLink m3 ((⟨(⟨x2.to_.column, x2.to_.row⟩ : Block), (⟨x2.from_.column, x2.from_.row⟩ : Block)⟩ : Link))).getD 0) - t8_1)))), .blk b1 98 [.slice A_a0_bog_worth a0.bog.worth.length c_a0_bog_worth, .map (some b_a0_has), .map (some b_a0_passed)]]) (C' := [.own A3_0 c3_0 101 4 (List.map encLink r1.1), .mp b_a0_has (encMap ekBlock ekI ((mset eqBlock ((mset eqBlock r1.2.2.1 ((⟨a1.column, a1.row⟩ : Block)) (((mget eqBlock r1.2.2.1 ((⟨a1.column, a1.row⟩ : Block))).getD 0) - t8_1))) ((⟨x1.to_.column, x1.to_.row⟩ : Block)) (((mget eqBlock ((mset eqBlock r1.2.2.1 ((⟨a1.column, a1.row⟩ : Block)) (((mget eqBlock r1.2.2.1 ((⟨a1.column, a1.row⟩ : Block))).getD 0) - t8_1))) ((⟨x1.to_.column, x1.to_.row⟩ : Block))).getD 0) + t8_1)))), .mp b_a0_passed (encMap ekLink ekI ((mset eqLink m3 ((⟨(⟨x2.to_.column, x2.to_.row⟩ : Block), (⟨x2.from_.column, x2.from_.row⟩ : Block)⟩ : Link)) (((mget eqLink m3 ((⟨(⟨x2.to_.column, x2.to_.row⟩ : Block), (⟨x2.from_.column, x2.from_.row⟩ : Block)⟩ : Link))).getD 0) - t8_1)))), .blk b1 98 [.slice A_a0_bog_worth a0.bog.worth.length c_a0_bog_worth, .map (some b_a0_has), .map (some b_a0_passed)]]) [1, 2, 3, 4] (by decide) rfl
                    replace R0 := H.ext
                    refine DW.nil (jK172 _ _ ⟨_, ?_, ⟨((mset eqLink m3 ((⟨(⟨x2.to_.column, x2.to_.row⟩ : Block), (⟨x2.from_.column, x2.from_.row⟩ : Block)⟩ : Link)) (((mget eqLink m3 ((⟨(⟨x2.to_.column, x2.to_.row⟩ : Block), (⟨x2.from_.column, x2.from_.row⟩ : Block)⟩ : Link))).getD 0) - t8_1))), F, rfl, H⟩⟩)
                    exact ⟨rfl, rfl, rfl, (look_slice rfl (by first | rfl | (simp; done) | omega | (simp; omega))), rfl, rfl, trivial⟩
                ·
                  replace F := ite_n hp3 F
                  have hq3 := dec_f hp3
                  refine CW.condF rfl hq3 ?_
                  obtain ⟨hg5, F⟩ := gd_some F
                  refine CW.draw [6, 8] (fun _ => True) (.cons 0 1 (.cons 1 1 (.cons 2 1 (.cons 4 1 (.alt 3 (.cons 5 2 (.cons 6 0 (.cons 7 2 (.cons 8 0 .nil)))) (.cons 6 0 (.cons 7 2 (.cons 3 0 (.cons 5 2 (.cons 8 0 .nil)))))))))) mixed (by kernel_rfl) fun w15 E3 => ?_
                  replace H := H.grow E3
                  replace R0 := H.ext
                  refine DW.fix rfl rfl rfl (fun _ EQ => RV.fieldAddr Tf98_2 rfl) ?_
                  refine DW.fix rfl rfl rfl (fun _ EQ => RV.load1 Tk96 rfl (((H.grow EQ).blk 4 rfl).cells.off 2) rfl) ?_
                  refine DW.fix rfl rfl rfl (fun _ EQ => RV.loadA [.int .i64 x2.from_.column, .int .i64 x2.from_.row, .int .i64 x2.to_.column, .int .i64 x2.to_.row] Tk101 rfl ((H.grow EQ).blk 0 rfl).cells rfl rfl) ?_
                  refine DW.fix rfl rfl rfl (fun _ EQ => RV.move rfl) ?_
                  refine DW.alt ?_ ?_
                  ·
                    refine DW.sole rfl rfl rfl (OW.value (RV.lookupM (ek := ekLink) (ev' := ekI) (eq := eqLink) (m := m3) ((⟨(⟨x2.from_.column, x2.from_.row⟩ : Block), (⟨x2.to_.column, x2.to_.row⟩ : Block)⟩ : Link)) 0 KO101 Tm96 Tz3 rfl rfl (H.mp 3 rfl)) ⟨fun _ => Ext.refl _, ModX.refl _ _, ?_⟩)
                    refine DW.thru rfl rfl rfl (fun _ EQ => RV.add rfl rfl hg5) ?_
                    refine DW.sole rfl rfl rfl (OW.entryM (ek := ekLink) (ev' := ekI) (eq := eqLink) (m := m3) ((⟨(⟨x2.from_.column, x2.from_.row⟩ : Block), (⟨x2.to_.column, x2.to_.row⟩ : Block)⟩ : Link)) 0 KO101 Tm96 Tz3 rfl rfl (H.mp 3 rfl) fun w16 bo3 M6 En3 => ?_)
                    refine ⟨fun h => absurd h (by decide), M6.modx (fun _ _ => trivial), ?_⟩
                    replace H : Hp wb w16 ([.blk b5 101 [.int .i64 x2.from_.column, .int .i64 x2.from_.row, .int .i64 x2.to_.column, .int .i64 x2.to_.row], .own A3_0 c3_0 101 4 (List.map encLink r1.1), .mp b_a0_has (encMap ekBlock ekI ((mset eqBlock ((mset eqBlock r1.2.2.1 ((⟨a1.column, a1.row⟩ : Block)) (((mget eqBlock r1.2.2.1 ((⟨a1.column, a1.row⟩ : Block))).getD 0) - t8_1))) ((⟨x1.to_.column, x1.to_.row⟩ : Block)) (((mget eqBlock ((mset eqBlock r1.2.2.1 ((⟨a1.column, a1.row⟩ : Block)) (((mget eqBlock r1.2.2.1 ((⟨a1.column, a1.row⟩ : Block))).getD 0) - t8_1))) ((⟨x1.to_.column, x1.to_.row⟩ : Block))).getD 0) + t8_1)))), eck b_a0_passed (encMap ekLink ekI (ment eqLink m3 ((⟨(⟨x2.from_.column, x2.from_.row⟩ : Block), (⟨x2.to_.column, x2.to_.row⟩ : Block)⟩ : Link)) 0)) (ekLink ((⟨(⟨x2.from_.column, x2.from_.row⟩ : Block), (⟨x2.to_.column, x2.to_.row⟩ : Block)⟩ : Link))) bo3, .blk b1 98 [.slice A_a0_bog_worth a0.bog.worth.length c_a0_bog_worth, .map (some b_a0_has), .map (some b_a0_passed)]] ++ R) := H.setE 3 rfl M6 En3
                    replace R0 := H.ext
                    refine DW.thru rfl rfl rfl (fun _ EQ => RV.extract rfl rfl) ?_
                    refine DW.sole rfl rfl rfl (OW.storeEnt (ek := ekLink) (ev' := ekI) (eq := eqLink) (m := m3) ((⟨(⟨x2.from_.column, x2.from_.row⟩ : Block), (⟨x2.to_.column, x2.to_.row⟩ : Block)⟩ : Link)) 0 (((mget eqLink m3 ((⟨(⟨x2.from_.column, x2.from_.row⟩ : Block), (⟨x2.to_.column, x2.to_.row⟩ : Block)⟩ : Link))).getD 0) + t8_1) KO101 rfl rfl rfl (H.ent 3 rfl) fun w17 M7 O3 => ?_)
                    refine ⟨fun h => absurd h (by decide), M7.modx (fun _ _ => trivial), ?_⟩
                    replace H : Hp wb w17 ([.blk b5 101 [.int .i64 x2.from_.column, .int .i64 x2.from_.row, .int .i64 x2.to_.column, .int .i64 x2.to_.row], .own A3_0 c3_0 101 4 (List.map encLink r1.1), .mp b_a0_has (encMap ekBlock ekI ((mset eqBlock ((mset eqBlock r1.2.2.1 ((⟨a1.column, a1.row⟩ : Block)) (((mget eqBlock r1.2.2.1 ((⟨a1.column, a1.row⟩ : Block))).getD 0) - t8_1))) ((⟨x1.to_.column, x1.to_.row⟩ : Block)) (((mget eqBlock ((mset eqBlock r1.2.2.1 ((⟨a1.column, a1.row⟩ : Block)) (((mget eqBlock r1.2.2.1 ((⟨a1.column, a1.row⟩ : Block))).getD 0) - t8_1))) ((⟨x1.to_.column, x1.to_.row⟩ : Block))).getD 0) + t8_1)))), .mp b_a0_passed (encMap ekLink ekI ((mset eqLink m3 ((⟨(⟨x2.from_.column, x2.from_.row⟩ : Block), (⟨x2.to_.column, x2.to_.row⟩ : Block)⟩ : Link)) (((mget eqLink m3 ((⟨(⟨x2.from_.column, x2.from_.row⟩ : Block), (⟨x2.to_.column, x2.to_.row⟩ : Block)⟩ : Link))).getD 0) + t8_1)))), .blk b1 98 [.slice A_a0_bog_worth a0.bog.worth.length c_a0_bog_worth, .map (some b_a0_has), .map (some b_a0_passed)]] ++ R) := H.setS 3 rfl M7 O3
                    replace R0 := H.ext
                    replace H := H.pickR (C := [.blk b5 101 [.int .i64 x2.from_.column, .int .i64 x2.from_.row, .int .i64 x2.to_.column, .int .i64 x2.to_.row], .own A3_0 c3_0 101 4 (List.map encLink r1.1), .mp b_a0_has (encMap ekBlock ekI ((mset eqBlock ((mset eqBlock r1.2.2.1 ((⟨a1.column, a1.row⟩ : Block)) (((mget eqBlock r1.2.2.1 ((⟨a1.column, a1.row⟩ : Block))).getD 0) - t8_1))) ((⟨x1.to_.column, x1.to_.row⟩ : Block)) (((mget eqBlock ((mset eqBlock r1.2.2.1 ((⟨a1.column, a1.row⟩ : Block)) (((mget eqBlock r1.2.2.1 ((⟨a1.column, a1.row⟩ : Block))).getD 0) - t8_1))) ((⟨x1.to_.column, x1.to_.row⟩ : Block))).getD 0) + t8_1)))), .mp b_a0_passed (encMap ekLink ekI ((mset eqLink m3 ((⟨(⟨x2.from_.column, x2.from_.row⟩ : Block), (⟨x2.to_.column, x2.to_.row⟩ : Block)⟩ : Link)) (((mget eqLink m3 ((⟨(⟨x2.from_.column, x2.from_.row⟩ : Block), (⟨x2.to_.column, x2.to_.row⟩ : Block)⟩ : Link))).getD 0) + t8_1)))), .blk b1 98 [.slice A_a0_bog_worth a0.bog.worth.length c_a0_bog_worth, .map (some b_a0_has), .map (some b_a0_passed)]]) (C' := [.own A3_0 c3_0 101 4 (List.map encLink r1.1), .mp b_a0_has (encMap ekBlock ekI ((mset eqBlock ((mset eqBlock r1.2.2.1 ((⟨a1.column, a1.row⟩ : Block)) (((mget eqBlock r1.2.2.1 ((⟨a1.column, a1.row⟩ : Block))).getD 0) - t8_1))) ((⟨x1.to_.column, x1.to_.row⟩ : Block)) (((mget eqBlock ((mset eqBlock r1.2.2.1 ((⟨a1.column, a1.row⟩ : Block)) (((mget eqBlock r1.2.2.1 ((⟨a1.column, a1.row⟩ : Block))).getD 0) - t8_1))) ((⟨x1.to_.column, x1.to_.row⟩ : Block))).getD 0) + t8_1)))), .mp b_a0_passed (encMap ekLink ekI ((mset eqLink m3 ((⟨(⟨x2.from_.column, x2.from_.row⟩ : Block), (⟨x2.to_.column, x2.to_.row⟩ : Block)⟩ : Link)) (((mget eqLink m3 ((⟨(⟨x2.from_.column, x2.from_.row⟩ : Block), (⟨x2.to_.column, x2.to_.row⟩ : Block)⟩ : Link))).getD 0) + t8_1)))), .blk b1 98 [.slice A_a0_bog_worth a0.bog.worth.length c_a0_bog_worth, .map (some b_a0_has), .map (some b_a0_passed)]]) [1, 2, 3, 4] (by decide) rfl
                    replace R0 := H.ext
                    refine DW.nil (jK172 _ _ ⟨_, ?_, ⟨((mset eqLink m3 ((⟨(⟨x2.from_.column, x2.from_.row⟩ : Block), (⟨x2.to_.column, x2.to_.row⟩ : Block)⟩ : Link)) (((mget eqLink m3 ((⟨(⟨x2.from_.column, x2.from_.row⟩ : Block), (⟨x2.to_.column, x2.to_.row⟩ : Block)⟩ : Link))).getD 0) + t8_1))), F, rfl, H⟩⟩)
                    exact ⟨rfl, rfl, rfl, (look_slice rfl (by first | rfl | (simp; done) | omega | (simp; omega))), rfl, rfl, trivial⟩
                  ·
                    refine DW.sole rfl rfl rfl (OW.entryM (ek := ekLink) (ev' := ekI) (eq := eqLink) (m := m3) ((⟨(⟨x2.from_.column, x2.from_.row⟩ : Block), (⟨x2.to_.column, x2.to_.row⟩ : Block)⟩ : Link)) 0 KO101 Tm96 Tz3 rfl rfl (H.mp 3 rfl) fun w18 bo4 M8 En4 => ?_)
                    refine ⟨fun h => absurd h (by decide), M8.modx (fun _ _ => trivial), ?_⟩
                    replace H : Hp wb w18 ([.blk b5 101 [.int .i64 x2.from_.column, .int .i64 x2.from_.row, .int .i64 x2.to_.column, .int .i64 x2.to_.row], .own A3_0 c3_0 101 4 (List.map encLink r1.1), .mp b_a0_has (encMap ekBlock ekI ((mset eqBlock ((mset eqBlock r1.2.2.1 ((⟨a1.column, a1.row⟩ : Block)) (((mget eqBlock r1.2.2.1 ((⟨a1.column, a1.row⟩ : Block))).getD 0) - t8_1))) ((⟨x1.to_.column, x1.to_.row⟩ : Block)) (((mget eqBlock ((mset eqBlock r1.2.2.1 ((⟨a1.column, a1.row⟩ : Block)) (((mget eqBlock r1.2.2.1 ((⟨a1.column, a1.row⟩ : Block))).getD 0) - t8_1))) ((⟨x1.to_.column, x1.to_.row⟩ : Block))).getD 0) + t8_1)))), eck b_a0_passed (encMap ekLink ekI (ment eqLink m3 ((⟨(⟨x2.from_.column, x2.from_.row⟩ : Block), (⟨x2.to_.column, x2.to_.row⟩ : Block)⟩ : Link)) 0)) (ekLink ((⟨(⟨x2.from_.column, x2.from_.row⟩ : Block), (⟨x2.to_.column, x2.to_.row⟩ : Block)⟩ : Link))) bo4, .blk b1 98 [.slice A_a0_bog_worth a0.bog.worth.length c_a0_bog_worth, .map (some b_a0_has), .map (some b_a0_passed)]] ++ R) := H.setE 3 rfl M8 En4
                    replace R0 := H.ext
                    refine DW.thru rfl rfl rfl (fun _ EQ => RV.extract rfl rfl) ?_
                    refine DW.sole rfl rfl rfl (OW.value (RV.lookupE (ek := ekLink) (ev' := ekI) (eq := eqLink) (m := m3) ((⟨(⟨x2.from_.column, x2.from_.row⟩ : Block), (⟨x2.to_.column, x2.to_.row⟩ : Block)⟩ : Link)) 0 KO101 Tm96 Tz3 rfl rfl (H.ent 3 rfl)) ⟨fun _ => Ext.refl _, ModX.refl _ _, ?_⟩)
                    refine DW.thru rfl rfl rfl (fun _ EQ => RV.add rfl rfl hg5) ?_
                    refine DW.sole rfl rfl rfl (OW.storeEnt (ek := ekLink) (ev' := ekI) (eq := eqLink) (m := m3) ((⟨(⟨x2.from_.column, x2.from_.row⟩ : Block), (⟨x2.to_.column, x2.to_.row⟩ : Block)⟩ : Link)) 0 (((mget eqLink m3 ((⟨(⟨x2.from_.column, x2.from_.row⟩ : Block), (⟨x2.to_.column, x2.to_.row⟩ : Block)⟩ : Link))).getD 0) + t8_1) KO101 rfl rfl rfl (H.ent 3 rfl) fun w19 M9 O4 => ?_)
                    refine ⟨fun h => absurd h (by decide), M9.modx (fun _ _ => trivial), ?_⟩
                    replace H : Hp wb w19 ([.blk b5 101 [.int .i64 x2.from_.column, .int .i64 x2.from_.row, .int .i64 x2.to_.column, .int .i64 x2.to_.row], .own A3_0 c3_0 101 4 (List.map encLink r1.1), .mp b_a0_has (encMap ekBlock ekI ((mset eqBlock ((mset eqBlock r1.2.2.1 ((⟨a1.column, a1.row⟩ : Block)) (((mget eqBlock r1.2.2.1 ((⟨a1.column, a1.row⟩ : Block))).getD 0) - t8_1))) ((⟨x1.to_.column, x1.to_.row⟩ : Block)) (((mget eqBlock ((mset eqBlock r1.2.2.1 ((⟨a1.column, a1.row⟩ : Block)) (((mget eqBlock r1.2.2.1 ((⟨a1.column, a1.row⟩ : Block))).getD 0) - t8_1))) ((⟨x1.to_.column, x1.to_.row⟩ : Block))).getD 0) + t8_1)))), .mp b_a0_passed (encMap ekLink ekI ((mset eqLink m3 ((⟨(⟨x2.from_.column, x2.from_.row⟩ : Block), (⟨x2.to_.column, x2.to_.row⟩ : Block)⟩ : Link)) (((mget eqLink m3 ((⟨(⟨x2.from_.column, x2.from_.row⟩ : Block), (⟨x2.to_.column, x2.to_.row⟩ : Block)⟩ : Link))).getD 0) + t8_1)))), .blk b1 98 [.slice A_a0_bog_worth a0.bog.worth.length c_a0_bog_worth, .map (some b_a0_has), .map (some b_a0_passed)]] ++ R) := H.setS 3 rfl M9 O4
                    replace R0 := H.ext
                    replace H := H.pickR (C := [.blk b5 101 [.int .i64 x2.from_.column, .int .i64 x2.from_.row, .int .i64 x2.to_.column, .int .i64 x2.to_.row], .own A3_0 c3_0 101 4 (List.map encLink r1.1), .mp b_a0_has (encMap ekBlock ekI ((mset eqBlock ((mset eqBlock r1.2.2.1 ((⟨a1.column, a1.row⟩ : Block)) (((mget eqBlock r1.2.2.1 ((⟨a1.column, a1.row⟩ : Block))).getD 0) - t8_1))) ((⟨x1.to_.column, x1.to_.row⟩ : Block)) (((mget eqBlock ((mset eqBlock r1.2.2.1 ((⟨a1.column, a1.row⟩ : Block)) (((mget eqBlock r1.2.2.1 ((⟨a1.column, a1.row⟩ : Block))).getD 0) - t8_1))) ((⟨x1.to_.column, x1.to_.row⟩ : Block))).getD 0) + t8_1)))), .mp b_a0_passed (encMap ekLink ekI ((mset eqLink m3 ((⟨(⟨x2.from_.column, x2.from_.row⟩ : Block), (⟨x2.to_.column, x2.to_.row⟩ : Block)⟩ : Link)) (((mget eqLink m3 ((⟨(⟨x2.from_.column, x2.from_.row⟩ : Block), (⟨x2.to_.column, x2.to_.row⟩ : Block)⟩ : Link))).getD 0) + t8_1)))), .blk b1 98 [.slice A_a0_bog_worth a0.bog.worth.length c_a0_bog_worth, .map (some b_a0_has), .map (some b_a0_passed)]]) (C' := [.own A3_0 c3_0 101 4 (List.map encLink r1.1), .mp b_a0_has (encMap ekBlock ekI ((mset eqBlock ((mset eqBlock r1.2.2.1 ((⟨a1.column, a1.row⟩ : Block)) (((mget eqBlock r1.2.2.1 ((⟨a1.column, a1.row⟩ : Block))).getD 0) - t8_1))) ((⟨x1.to_.column, x1.to_.row⟩ : Block)) (((mget eqBlock ((mset eqBlock r1.2.2.1 ((⟨a1.column, a1.row⟩ : Block)) (((mget eqBlock r1.2.2.1 ((⟨a1.column, a1.row⟩ : Block))).getD 0) - t8_1))) ((⟨x1.to_.column, x1.to_.row⟩ : Block))).getD 0) + t8_1)))), .mp b_a0_passed (encMap ekLink ekI ((mset eqLink m3 ((⟨(⟨x2.from_.column, x2.from_.row⟩ : Block), (⟨x2.to_.column, x2.to_.row⟩ : Block)⟩ : Link)) (((mget eqLink m3 ((⟨(⟨x2.from_.column, x2.from_.row⟩ : Block), (⟨x2.to_.column, x2.to_.row⟩ : Block)⟩ : Link))).getD 0) + t8_1)))), .blk b1 98 [.slice A_a0_bog_worth a0.bog.worth.length c_a0_bog_worth, .map (some b_a0_has), .map (some b_a0_passed)]]) [1, 2, 3, 4] (by decide) rfl
                    replace R0 := H.ext
                    refine DW.nil (jK172 _ _ ⟨_, ?_, ⟨((mset eqLink m3 ((⟨(⟨x2.from_.column, x2.from_.row⟩ : Block), (⟨x2.to_.column, x2.to_.row⟩ : Block)⟩ : Link)) (((mget eqLink m3 ((⟨(⟨x2.from_.column, x2.from_.row⟩ : Block), (⟨x2.to_.column, x2.to_.row⟩ : Block)⟩ : Link))).getD 0) + t8_1))), F, rfl, H⟩⟩)
                    exact ⟨rfl, rfl, rfl, (look_slice rfl (by first | rfl | (simp; done) | omega | (simp; omega))), rfl, rfl, trivial⟩
            ·
              replace F := ite_n hp2 F
              have hq2 := dec_f hp2
              refine CW.condF rfl hq2 ?_
              replace H := H.pickR (C := [.own A3_0 c3_0 101 4 (List.map encLink r1.1), .mp b_a0_has (encMap ekBlock ekI ((mset eqBlock ((mset eqBlock r1.2.2.1 ((⟨a1.column, a1.row⟩ : Block)) (((mget eqBlock r1.2.2.1 ((⟨a1.column, a1.row⟩ : Block))).getD 0) - t8_1))) ((⟨x1.to_.column, x1.to_.row⟩ : Block)) (((mget eqBlock ((mset eqBlock r1.2.2.1 ((⟨a1.column, a1.row⟩ : Block)) (((mget eqBlock r1.2.2.1 ((⟨a1.column, a1.row⟩ : Block))).getD 0) - t8_1))) ((⟨x1.to_.column, x1.to_.row⟩ : Block))).getD 0) + t8_1)))), .mp b_a0_passed (encMap ekLink ekI m3), .blk b1 98 [.slice A_a0_bog_worth a0.bog.worth.length c_a0_bog_worth, .map (some b_a0_has), .map (some b_a0_passed)]]) (C' := [.mp b_a0_has (encMap ekBlock ekI ((mset eqBlock ((mset eqBlock r1.2.2.1 ((⟨a1.column, a1.row⟩ : Block)) (((mget eqBlock r1.2.2.1 ((⟨a1.column, a1.row⟩ : Block))).getD 0) - t8_1))) ((⟨x1.to_.column, x1.to_.row⟩ : Block)) (((mget eqBlock ((mset eqBlock r1.2.2.1 ((⟨a1.column, a1.row⟩ : Block)) (((mget eqBlock r1.2.2.1 ((⟨a1.column, a1.row⟩ : Block))).getD 0) - t8_1))) ((⟨x1.to_.column, x1.to_.row⟩ : Block))).getD 0) + t8_1)))), .mp b_a0_passed (encMap ekLink ekI m3)]) [1, 2] (by decide) rfl
              replace R0 := H.ext
              refine CW.exit (jK152 _ _ ⟨_, ?_, ⟨m3, F, rfl, H⟩⟩)
              exact ⟨rfl, trivial⟩
        ·
          intro K15 hK15 jK175
          obtain ⟨hg6, F⟩ := gd_some F
          refine CW.draw [6, 8] (fun _ => True) (.cons 0 1 (.cons 1 1 (.cons 2 1 (.cons 4 1 (.alt 3 (.cons 5 2 (.cons 6 0 (.cons 7 2 (.cons 8 0 .nil)))) (.cons 6 0 (.cons 7 2 (.cons 3 0 (.cons 5 2 (.cons 8 0 .nil)))))))))) mixed (by kernel_rfl) fun w20 E4 => ?_
          replace H := H.grow E4
          replace R0 := H.ext
          refine DW.fix rfl rfl rfl (fun _ EQ => RV.fieldAddr Tf98_1 rfl) ?_
          refine DW.fix rfl rfl rfl (fun _ EQ => RV.load1 Tk90 rfl (((H.grow EQ).blk 3 rfl).cells.off 1) rfl) ?_
          refine DW.fix rfl rfl rfl (fun _ EQ => RV.loadA [.int .i64 x1.to_.column, .int .i64 x1.to_.row] Tk92 rfl ((H.grow EQ).blk 4 rfl).cells rfl rfl) ?_
          refine DW.fix rfl rfl rfl (fun _ EQ => RV.move rfl) ?_
          refine DW.alt ?_ ?_
          ·
            refine DW.sole rfl rfl rfl (OW.value (RV.lookupM (ek := ekBlock) (ev' := ekI) (eq := eqBlock) (m := (mset eqBlock r1.2.2.1 ((⟨a1.column, a1.row⟩ : Block)) (((mget eqBlock r1.2.2.1 ((⟨a1.column, a1.row⟩ : Block))).getD 0) - t8_1))) ((⟨x1.to_.column, x1.to_.row⟩ : Block)) 0 KO92 Tm90 Tz3 rfl rfl (H.mp 1 rfl)) ⟨fun _ => Ext.refl _, ModX.refl _ _, ?_⟩)
            refine DW.thru rfl rfl rfl (fun _ EQ => RV.add rfl rfl hg6) ?_
            refine DW.sole rfl rfl rfl (OW.entryM (ek := ekBlock) (ev' := ekI) (eq := eqBlock) (m := (mset eqBlock r1.2.2.1 ((⟨a1.column, a1.row⟩ : Block)) (((mget eqBlock r1.2.2.1 ((⟨a1.column, a1.row⟩ : Block))).getD 0) - t8_1))) ((⟨x1.to_.column, x1.to_.row⟩ : Block)) 0 KO92 Tm90 Tz3 rfl rfl (H.mp 1 rfl) fun w21 bo5 M10 En5 => ?_)
            refine ⟨fun h => absurd h (by decide), M10.modx (fun _ _ => trivial), ?_⟩
            replace H : Hp wb w21 ([.own A3_0 c3_0 101 4 (List.map encLink r1.1), eck b_a0_has (encMap ekBlock ekI (ment eqBlock ((mset eqBlock r1.2.2.1 ((⟨a1.column, a1.row⟩ : Block)) (((mget eqBlock r1.2.2.1 ((⟨a1.column, a1.row⟩ : Block))).getD 0) - t8_1))) ((⟨x1.to_.column, x1.to_.row⟩ : Block)) 0)) (ekBlock ((⟨x1.to_.column, x1.to_.row⟩ : Block))) bo5, .mp b_a0_passed (encMap ekLink ekI r1.2.2.2.1), .blk b1 98 [.slice A_a0_bog_worth a0.bog.worth.length c_a0_bog_worth, .map (some b_a0_has), .map (some b_a0_passed)], .blk b4 92 [.int .i64 x1.to_.column, .int .i64 x1.to_.row]] ++ R) := H.setE 1 rfl M10 En5
            replace R0 := H.ext
            refine DW.thru rfl rfl rfl (fun _ EQ => RV.extract rfl rfl) ?_
            refine DW.sole rfl rfl rfl (OW.storeEnt (ek := ekBlock) (ev' := ekI) (eq := eqBlock) (m := (mset eqBlock r1.2.2.1 ((⟨a1.column, a1.row⟩ : Block)) (((mget eqBlock r1.2.2.1 ((⟨a1.column, a1.row⟩ : Block))).getD 0) - t8_1))) ((⟨x1.to_.column, x1.to_.row⟩ : Block)) 0 (((mget eqBlock ((mset eqBlock r1.2.2.1 ((⟨a1.column, a1.row⟩ : Block)) (((mget eqBlock r1.2.2.1 ((⟨a1.column, a1.row⟩ : Block))).getD 0) - t8_1))) ((⟨x1.to_.column, x1.to_.row⟩ : Block))).getD 0) + t8_1) KO92 rfl rfl rfl (H.ent 1 rfl) fun w22 M11 O5 => ?_)
            refine ⟨fun h => absurd h (by decide), M11.modx (fun _ _ => trivial), ?_⟩
            replace H : Hp wb w22 ([.own A3_0 c3_0 101 4 (List.map encLink r1.1), .mp b_a0_has (encMap ekBlock ekI ((mset eqBlock ((mset eqBlock r1.2.2.1 ((⟨a1.column, a1.row⟩ : Block)) (((mget eqBlock r1.2.2.1 ((⟨a1.column, a1.row⟩ : Block))).getD 0) - t8_1))) ((⟨x1.to_.column, x1.to_.row⟩ : Block)) (((mget eqBlock ((mset eqBlock r1.2.2.1 ((⟨a1.column, a1.row⟩ : Block)) (((mget eqBlock r1.2.2.1 ((⟨a1.column, a1.row⟩ : Block))).getD 0) - t8_1))) ((⟨x1.to_.column, x1.to_.row⟩ : Block))).getD 0) + t8_1)))), .mp b_a0_passed (encMap ekLink ekI r1.2.2.2.1), .blk b1 98 [.slice A_a0_bog_worth a0.bog.worth.length c_a0_bog_worth, .map (some b_a0_has), .map (some b_a0_passed)], .blk b4 92 [.int .i64 x1.to_.column, .int .i64 x1.to_.row]] ++ R) := H.setS 1 rfl M11 O5
            replace R0 := H.ext
            replace H := H.pickR (C := [.own A3_0 c3_0 101 4 (List.map encLink r1.1), .mp b_a0_has (encMap ekBlock ekI ((mset eqBlock ((mset eqBlock r1.2.2.1 ((⟨a1.column, a1.row⟩ : Block)) (((mget eqBlock r1.2.2.1 ((⟨a1.column, a1.row⟩ : Block))).getD 0) - t8_1))) ((⟨x1.to_.column, x1.to_.row⟩ : Block)) (((mget eqBlock ((mset eqBlock r1.2.2.1 ((⟨a1.column, a1.row⟩ : Block)) (((mget eqBlock r1.2.2.1 ((⟨a1.column, a1.row⟩ : Block))).getD 0) - t8_1))) ((⟨x1.to_.column, x1.to_.row⟩ : Block))).getD 0) + t8_1)))), .mp b_a0_passed (encMap ekLink ekI r1.2.2.2.1), .blk b1 98 [.slice A_a0_bog_worth a0.bog.worth.length c_a0_bog_worth, .map (some b_a0_has), .map (some b_a0_passed)], .blk b4 92 [.int .i64 x1.to_.column, .int .i64 x1.to_.row]]) (C' := [.own A3_0 c3_0 101 4 (List.map encLink r1.1), .mp b_a0_has (encMap ekBlock ekI ((mset eqBlock ((mset eqBlock r1.2.2.1 ((⟨a1.column, a1.row⟩ : Block)) (((mget eqBlock r1.2.2.1 ((⟨a1.column, a1.row⟩ : Block))).getD 0) - t8_1))) ((⟨x1.to_.column, x1.to_.row⟩ : Block)) (((mget eqBlock ((mset eqBlock r1.2.2.1 ((⟨a1.column, a1.row⟩ : Block)) (((mget eqBlock r1.2.2.1 ((⟨a1.column, a1.row⟩ : Block))).getD 0) - t8_1))) ((⟨x1.to_.column, x1.to_.row⟩ : Block))).getD 0) + t8_1)))), .mp b_a0_passed (encMap ekLink ekI r1.2.2.2.1), .blk b1 98 [.slice A_a0_bog_worth a0.bog.worth.length c_a0_bog_worth, .map (some b_a0_has), .map (some b_a0_passed)]]) [0, 1, 2, 3] (by decide) rfl
            replace R0 := H.ext
            refine DW.nil (jK175 _ _ ⟨_, ?_, ⟨F, rfl, H⟩⟩)
            exact ⟨rfl, rfl, (look_slice rfl (by first | rfl | (simp; done) | omega | (simp; omega))), rfl, trivial⟩
          ·
            refine DW.sole rfl rfl rfl (OW.entryM (ek := ekBlock) (ev' := ekI) (eq := eqBlock) (m := (mset eqBlock r1.2.2.1 ((⟨a1.column, a1.row⟩ : Block)) (((mget eqBlock r1.2.2.1 ((⟨a1.column, a1.row⟩ : Block))).getD 0) - t8_1))) ((⟨x1.to_.column, x1.to_.row⟩ : Block)) 0 KO92 Tm90 Tz3 rfl rfl (H.mp 1 rfl) fun w23 bo6 M12 En6 => ?_)
            refine ⟨fun h => absurd h (by decide), M12.modx (fun _ _ => trivial), ?_⟩
            replace H : Hp wb w23 ([.own A3_0 c3_0 101 4 (List.map encLink r1.1), eck b_a0_has (encMap ekBlock ekI (ment eqBlock ((mset eqBlock r1.2.2.1 ((⟨a1.column, a1.row⟩ : Block)) (((mget eqBlock r1.2.2.1 ((⟨a1.column, a1.row⟩ : Block))).getD 0) - t8_1))) ((⟨x1.to_.column, x1.to_.row⟩ : Block)) 0)) (ekBlock ((⟨x1.to_.column, x1.to_.row⟩ : Block))) bo6, .mp b_a0_passed (encMap ekLink ekI r1.2.2.2.1), .blk b1 98 [.slice A_a0_bog_worth a0.bog.worth.length c_a0_bog_worth, .map (some b_a0_has), .map (some b_a0_passed)], .blk b4 92 [.int .i64 x1.to_.column, .int .i64 x1.to_.row]] ++ R) := H.setE 1 rfl M12 En6
            replace R0 := H.ext
            refine DW.thru rfl rfl rfl (fun _ EQ => RV.extract rfl rfl) ?_
            refine DW.sole rfl rfl rfl (OW.value (RV.lookupE (ek := ekBlock) (ev' := ekI) (eq := eqBlock) (m := (mset eqBlock r1.2.2.1 ((⟨a1.column, a1.row⟩ : Block)) (((mget eqBlock r1.2.2.1 ((⟨a1.column, a1.row⟩ : Block))).getD 0) - t8_1))) ((⟨x1.to_.column, x1.to_.row⟩ : Block)) 0 KO92 Tm90 Tz3 rfl rfl (H.ent 1 rfl)) ⟨fun _ => Ext.refl _, ModX.refl _ _, ?_⟩)
            refine DW.thru rfl rfl rfl (fun _ EQ => RV.add rfl rfl hg6) ?_
            refine DW.sole rfl rfl rfl (OW.storeEnt (ek := ekBlock) (ev' := ekI) (eq := eqBlock) (m := (mset eqBlock r1.2.2.1 ((⟨a1.column, a1.row⟩ : Block)) (((mget eqBlock r1.2.2.1 ((⟨a1.column, a1.row⟩ : Block))).getD 0) - t8_1))) ((⟨x1.to_.column, x1.to_.row⟩ : Block)) 0 (((mget eqBlock ((mset eqBlock r1.2.2.1 ((⟨a1.column, a1.row⟩ : Block)) (((mget eqBlock r1.2.2.1 ((⟨a1.column, a1.row⟩ : Block))).getD 0) - t8_1))) ((⟨x1.to_.column, x1.to_.row⟩ : Block))).getD 0) + t8_1) KO92 rfl rfl rfl (H.ent 1 rfl) fun w24 M13 O6 => ?_)
            refine ⟨fun h => absurd h (by decide), M13.modx (fun _ _ => trivial), ?_⟩
            replace H : Hp wb w24 ([.own A3_0 c3_0 101 4 (List.map encLink r1.1), .mp b_a0_has (encMap ekBlock ekI ((mset eqBlock ((mset eqBlock r1.2.2.1 ((⟨a1.column, a1.row⟩ : Block)) (((mget eqBlock r1.2.2.1 ((⟨a1.column, a1.row⟩ : Block))).getD 0) - t8_1))) ((⟨x1.to_.column, x1.to_.row⟩ : Block)) (((mget eqBlock ((mset eqBlock r1.2.2.1 ((⟨a1.column, a1.row⟩ : Block)) (((mget eqBlock r1.2.2.1 ((⟨a1.column, a1.row⟩ : Block))).getD 0) - t8_1))) ((⟨x1.to_.column, x1.to_.row⟩ : Block))).getD 0) + t8_1)))), .mp b_a0_passed (encMap ekLink ekI r1.2.2.2.1), .blk b1 98 [.slice A_a0_bog_worth a0.bog.worth.length c_a0_bog_worth, .map (some b_a0_has), .map (some b_a0_passed)], .blk b4 92 [.int .i64 x1.to_.column, .int .i64 x1.to_.row]] ++ R) := H.setS 1 rfl M13 O6
            replace R0 := H.ext
            replace H := H.pickR (C := [.own A3_0 c3_0 101 4 (List.map encLink r1.1), .mp b_a0_has (encMap ekBlock ekI ((mset eqBlock ((mset eqBlock r1.2.2.1 ((⟨a1.column, a1.row⟩ : Block)) (((mget eqBlock r1.2.2.1 ((⟨a1.column, a1.row⟩ : Block))).getD 0) - t8_1))) ((⟨x1.to_.column, x1.to_.row⟩ : Block)) (((mget eqBlock ((mset eqBlock r1.2.2.1 ((⟨a1.column, a1.row⟩ : Block)) (((mget eqBlock r1.2.2.1 ((⟨a1.column, a1.row⟩ : Block))).getD 0) - t8_1))) ((⟨x1.to_.column, x1.to_.row⟩ : Block))).getD 0) + t8_1)))), .mp b_a0_passed (encMap ekLink ekI r1.2.2.2.1), .blk b1 98 [.slice A_a0_bog_worth a0.bog.worth.length c_a0_bog_worth, .map (some b_a0_has), .map (some b_a0_passed)], .blk b4 92 [.int .i64 x1.to_.column, .int .i64 x1.to_.row]]) (C' := [.own A3_0 c3_0 101 4 (List.map encLink r1.1), .mp b_a0_has (encMap ekBlock ekI ((mset eqBlock ((mset eqBlock r1.2.2.1 ((⟨a1.column, a1.row⟩ : Block)) (((mget eqBlock r1.2.2.1 ((⟨a1.column, a1.row⟩ : Block))).getD 0) - t8_1))) ((⟨x1.to_.column, x1.to_.row⟩ : Block)) (((mget eqBlock ((mset eqBlock r1.2.2.1 ((⟨a1.column, a1.row⟩ : Block)) (((mget eqBlock r1.2.2.1 ((⟨a1.column, a1.row⟩ : Block))).getD 0) - t8_1))) ((⟨x1.to_.column, x1.to_.row⟩ : Block))).getD 0) + t8_1)))), .mp b_a0_passed (encMap ekLink ekI r1.2.2.2.1), .blk b1 98 [.slice A_a0_bog_worth a0.bog.worth.length c_a0_bog_worth, .map (some b_a0_has), .map (some b_a0_passed)]]) [0, 1, 2, 3] (by decide) rfl
            replace R0 := H.ext
            refine DW.nil (jK175 _ _ ⟨_, ?_, ⟨F, rfl, H⟩⟩)
            exact ⟨rfl, rfl, (look_slice rfl (by first | rfl | (simp; done) | omega | (simp; omega))), rfl, trivial⟩
      ·
        intro K16 hK16 jK176
        obtain ⟨hg7, F⟩ := gd_some F
        refine CW.draw [6, 8] (fun _ => True) (.cons 0 1 (.cons 1 1 (.cons 2 1 (.cons 4 1 (.alt 3 (.cons 5 2 (.cons 6 0 (.cons 7 2 (.cons 8 0 .nil)))) (.cons 6 0 (.cons 7 2 (.cons 3 0 (.cons 5 2 (.cons 8 0 .nil)))))))))) mixed (by kernel_rfl) fun w25 E5 => ?_
        replace H := H.grow E5
        replace R0 := H.ext
        refine DW.fix rfl rfl rfl (fun _ EQ => RV.fieldAddr Tf98_1 rfl) ?_
        refine DW.fix rfl rfl rfl (fun _ EQ => RV.load1 Tk90 rfl (((H.grow EQ).blk 3 rfl).cells.off 1) rfl) ?_
        refine DW.fix rfl rfl rfl (fun _ EQ => RV.loadA [.int .i64 a1.column, .int .i64 a1.row] Tk92 rfl ((H.grow EQ).blk 4 rfl).cells rfl rfl) ?_
        refine DW.fix rfl rfl rfl (fun _ EQ => RV.move rfl) ?_
        refine DW.alt ?_ ?_
        ·
          refine DW.sole rfl rfl rfl (OW.value (RV.lookupM (ek := ekBlock) (ev' := ekI) (eq := eqBlock) (m := r1.2.2.1) ((⟨a1.column, a1.row⟩ : Block)) 0 KO92 Tm90 Tz3 rfl rfl (H.mp 1 rfl)) ⟨fun _ => Ext.refl _, ModX.refl _ _, ?_⟩)
          refine DW.thru rfl rfl rfl (fun _ EQ => RV.sub rfl rfl hg7) ?_
          refine DW.sole rfl rfl rfl (OW.entryM (ek := ekBlock) (ev' := ekI) (eq := eqBlock) (m := r1.2.2.1) ((⟨a1.column, a1.row⟩ : Block)) 0 KO92 Tm90 Tz3 rfl rfl (H.mp 1 rfl) fun w26 bo7 M14 En7 => ?_)
          refine ⟨fun h => absurd h (by decide), M14.modx (fun _ _ => trivial), ?_⟩
          replace H : Hp wb w26 ([.own A3_0 c3_0 101 4 (List.map encLink r1.1), eck b_a0_has (encMap ekBlock ekI (ment eqBlock r1.2.2.1 ((⟨a1.column, a1.row⟩ : Block)) 0)) (ekBlock ((⟨a1.column, a1.row⟩ : Block))) bo7, .mp b_a0_passed (encMap ekLink ekI r1.2.2.2.1), .blk b1 98 [.slice A_a0_bog_worth a0.bog.worth.length c_a0_bog_worth, .map (some b_a0_has), .map (some b_a0_passed)], .blk b2 92 [.int .i64 a1.column, .int .i64 a1.row], .blk b4 92 [.int .i64 x1.to_.column, .int .i64 x1.to_.row]] ++ R) := H.setE 1 rfl M14 En7
          replace R0 := H.ext
          refine DW.thru rfl rfl rfl (fun _ EQ => RV.extract rfl rfl) ?_
          refine DW.sole rfl rfl rfl (OW.storeEnt (ek := ekBlock) (ev' := ekI) (eq := eqBlock) (m := r1.2.2.1) ((⟨a1.column, a1.row⟩ : Block)) 0 (((mget eqBlock r1.2.2.1 ((⟨a1.column, a1.row⟩ : Block))).getD 0) - t8_1) KO92 rfl rfl rfl (H.ent 1 rfl) fun w27 M15 O7 => ?_)
          refine ⟨fun h => absurd h (by decide), M15.modx (fun _ _ => trivial), ?_⟩
          replace H : Hp wb w27 ([.own A3_0 c3_0 101 4 (List.map encLink r1.1), .mp b_a0_has (encMap ekBlock ekI ((mset eqBlock r1.2.2.1 ((⟨a1.column, a1.row⟩ : Block)) (((mget eqBlock r1.2.2.1 ((⟨a1.column, a1.row⟩ : Block))).getD 0) - t8_1)))), .mp b_a0_passed (encMap ekLink ekI r1.2.2.2.1), .blk b1 98 [.slice A_a0_bog_worth a0.bog.worth.length c_a0_bog_worth, .map (some b_a0_has), .map (some b_a0_passed)], .blk b2 92 [.int .i64 a1.column, .int .i64 a1.row], .blk b4 92 [.int .i64 x1.to_.column, .int .i64 x1.to_.row]] ++ R) := H.setS 1 rfl M15 O7
          replace R0 := H.ext
          replace H := H.pickR (C := [.own A3_0 c3_0 101 4 (List.map encLink r1.1), .mp b_a0_has (encMap ekBlock ekI ((mset eqBlock r1.2.2.1 ((⟨a1.column, a1.row⟩ : Block)) (((mget eqBlock r1.2.2.1 ((⟨a1.column, a1.row⟩ : Block))).getD 0) - t8_1)))), .mp b_a0_passed (encMap ekLink ekI r1.2.2.2.1), .blk b1 98 [.slice A_a0_bog_worth a0.bog.worth.length c_a0_bog_worth, .map (some b_a0_has), .map (some b_a0_passed)], .blk b2 92 [.int .i64 a1.column, .int .i64 a1.row], .blk b4 92 [.int .i64 x1.to_.column, .int .i64 x1.to_.row]]) (C' := [.own A3_0 c3_0 101 4 (List.map encLink r1.1), .mp b_a0_has (encMap ekBlock ekI ((mset eqBlock r1.2.2.1 ((⟨a1.column, a1.row⟩ : Block)) (((mget eqBlock r1.2.2.1 ((⟨a1.column, a1.row⟩ : Block))).getD 0) - t8_1)))), .mp b_a0_passed (encMap ekLink ekI r1.2.2.2.1), .blk b1 98 [.slice A_a0_bog_worth a0.bog.worth.length c_a0_bog_worth, .map (some b_a0_has), .map (some b_a0_passed)], .blk b4 92 [.int .i64 x1.to_.column, .int .i64 x1.to_.row]]) [0, 1, 2, 3, 5] (by decide) rfl
          replace R0 := H.ext
          refine DW.nil (jK176 _ _ ⟨_, ?_, ⟨F, rfl, H⟩⟩)
          exact ⟨rfl, rfl, (look_slice rfl (by first | rfl | (simp; done) | omega | (simp; omega))), rfl, rfl, trivial⟩
        ·
          refine DW.sole rfl rfl rfl (OW.entryM (ek := ekBlock) (ev' := ekI) (eq := eqBlock) (m := r1.2.2.1) ((⟨a1.column, a1.row⟩ : Block)) 0 KO92 Tm90 Tz3 rfl rfl (H.mp 1 rfl) fun w28 bo8 M16 En8 => ?_)
          refine ⟨fun h => absurd h (by decide), M16.modx (fun _ _ => trivial), ?_⟩
          replace H : Hp wb w28 ([.own A3_0 c3_0 101 4 (List.map encLink r1.1), eck b_a0_has (encMap ekBlock ekI (ment eqBlock r1.2.2.1 ((⟨a1.column, a1.row⟩ : Block)) 0)) (ekBlock ((⟨a1.column, a1.row⟩ : Block))) bo8, .mp b_a0_passed (encMap ekLink ekI r1.2.2.2.1), .blk b1 98 [.slice A_a0_bog_worth a0.bog.worth.length c_a0_bog_worth, .map (some b_a0_has), .map (some b_a0_passed)], .blk b2 92 [.int .i64 a1.column, .int .i64 a1.row], .blk b4 92 [.int .i64 x1.to_.column, .int .i64 x1.to_.row]] ++ R) := H.setE 1 rfl M16 En8
          replace R0 := H.ext
          refine DW.thru rfl rfl rfl (fun _ EQ => RV.extract rfl rfl) ?_
          refine DW.sole rfl rfl rfl (OW.value (RV.lookupE (ek := ekBlock) (ev' := ekI) (eq := eqBlock) (m := r1.2.2.1) ((⟨a1.column, a1.row⟩ : Block)) 0 KO92 Tm90 Tz3 rfl rfl (H.ent 1 rfl)) ⟨fun _ => Ext.refl _, ModX.refl _ _, ?_⟩)
          refine DW.thru rfl rfl rfl (fun _ EQ => RV.sub rfl rfl hg7) ?_
          refine DW.sole rfl rfl rfl (OW.storeEnt (ek := ekBlock) (ev' := ekI) (eq := eqBlock) (m := r1.2.2.1) ((⟨a1.column, a1.row⟩ : Block)) 0 (((mget eqBlock r1.2.2.1 ((⟨a1.column, a1.row⟩ : Block))).getD 0) - t8_1) KO92 rfl rfl rfl (H.ent 1 rfl) fun w29 M17 O8 => ?_)
          refine ⟨fun h => absurd h (by decide), M17.modx (fun _ _ => trivial), ?_⟩
          replace H : Hp wb w29 ([.own A3_0 c3_0 101 4 (List.map encLink r1.1), .mp b_a0_has (encMap ekBlock ekI ((mset eqBlock r1.2.2.1 ((⟨a1.column, a1.row⟩ : Block)) (((mget eqBlock r1.2.2.1 ((⟨a1.column, a1.row⟩ : Block))).getD 0) - t8_1)))), .mp b_a0_passed (encMap ekLink ekI r1.2.2.2.1), .blk b1 98 [.slice A_a0_bog_worth a0.bog.worth.length c_a0_bog_worth, .map (some b_a0_has), .map (some b_a0_passed)], .blk b2 92 [.int .i64 a1.column, .int .i64 a1.row], .blk b4 92 [.int .i64 x1.to_.column, .int .i64 x1.to_.row]] ++ R) := H.setS 1 rfl M17 O8
          replace R0 := H.ext
          replace H := H.pickR (C := [.own A3_0 c3_0 101 4 (List.map encLink r1.1), .mp b_a0_has (encMap ekBlock ekI ((mset eqBlock r1.2.2.1 ((⟨a1.column, a1.row⟩ : Block)) (((mget eqBlock r1.2.2.1 ((⟨a1.column, a1.row⟩ : Block))).getD 0) - t8_1)))), .mp b_a0_passed (encMap ekLink ekI r1.2.2.2.1), .blk b1 98 [.slice A_a0_bog_worth a0.bog.worth.length c_a0_bog_worth, .map (some b_a0_has), .map (some b_a0_passed)], .blk b2 92 [.int .i64 a1.column, .int .i64 a1.row], .blk b4 92 [.int .i64 x1.to_.column, .int .i64 x1.to_.row]]) (C' := [.own A3_0 c3_0 101 4 (List.map encLink r1.1), .mp b_a0_has (encMap ekBlock ekI ((mset eqBlock r1.2.2.1 ((⟨a1.column, a1.row⟩ : Block)) (((mget eqBlock r1.2.2.1 ((⟨a1.column, a1.row⟩ : Block))).getD 0) - t8_1)))), .mp b_a0_passed (encMap ekLink ekI r1.2.2.2.1), .blk b1 98 [.slice A_a0_bog_worth a0.bog.worth.length c_a0_bog_worth, .map (some b_a0_has), .map (some b_a0_passed)], .blk b4 92 [.int .i64 x1.to_.column, .int .i64 x1.to_.row]]) [0, 1, 2, 3, 5] (by decide) rfl
          replace R0 := H.ext
          refine DW.nil (jK176 _ _ ⟨_, ?_, ⟨F, rfl, H⟩⟩)
          exact ⟨rfl, rfl, (look_slice rfl (by first | rfl | (simp; done) | omega | (simp; omega))), rfl, rfl, trivial⟩
    ·
      intro K17 hK17 jK177
      refine CW.seq fun K18 hK18 => ?_
      refine CW.region ?_
      refine LW.pure rfl rfl (RV.move rfl) ?_
      refine LW.pure rfl rfl (RV.len Ts106 rfl) ?_
      refine LW.pure rfl rfl (RV.move rfl) ?_
      refine LW.nil (hK18 _ _ ?_)
      refine CW.block ?_
      replace H := H.pickR (C := [.blk b4 92 [.int .i64 x1.to_.column, .int .i64 x1.to_.row], .mp b_a0_has (encMap ekBlock ekI r1.2.2.1), .mp b_a0_passed (encMap ekLink ekI r1.2.2.2.1), .mp b3 (encMap ekBlock ekBl r1.2.2.2.2), .own A3_0 c3_0 101 4 (List.map encLink r1.1), .blk b2 92 [.int .i64 a1.column, .int .i64 a1.row], .blk b1 98 [.slice A_a0_bog_worth a0.bog.worth.length c_a0_bog_worth, .map (some b_a0_has), .map (some b_a0_passed)]]) (C' := [.own A3_0 c3_0 101 4 (List.map encLink r1.1), .mp b_a0_has (encMap ekBlock ekI r1.2.2.1), .mp b_a0_passed (encMap ekLink ekI r1.2.2.2.1), .blk b1 98 [.slice A_a0_bog_worth a0.bog.worth.length c_a0_bog_worth, .map (some b_a0_has), .map (some b_a0_passed)], .blk b2 92 [.int .i64 a1.column, .int .i64 a1.row], .blk b4 92 [.int .i64 x1.to_.column, .int .i64 x1.to_.row]]) [4, 1, 2, 6, 5, 0] (by decide) rfl
      replace R0 := H.ext
      refine CW.loop (fun meas ρ wl7 => ∃ (t8_3 : Int) (t41_1 : Int), cut_payer_pay_L2 a1 r1 x1 meas t8_3 t41_1 = some res ∧ ρ = [(2, .pointer (some (⟨b1, 0, none⟩))), (3, .pointer (some (⟨b2, 0, none⟩))), (4, .bool false), (5, .slice A3_0 r1.1.length c3_0), (7, .pointer (some (⟨b4, 0, none⟩))), (8, .int .i64 t8_3), (39, .slice A3_0 r1.1.length c3_0), (40, .int .i64 ((r1.1.length : Int))), (41, .int .i64 t41_1)] ∧ Hp wb wl7 ([.own A3_0 c3_0 101 4 (List.map encLink r1.1), .mp b_a0_has (encMap ekBlock ekI r1.2.2.1), .mp b_a0_passed (encMap ekLink ekI r1.2.2.2.1), .blk b1 98 [.slice A_a0_bog_worth a0.bog.worth.length c_a0_bog_worth, .map (some b_a0_has), .map (some b_a0_passed)], .blk b2 92 [.int .i64 a1.column, .int .i64 a1.row], .blk b4 92 [.int .i64 x1.to_.column, .int .i64 x1.to_.row]] ++ R)) FU ⟨_, ?_, (min ((mget eqBlock r1.2.2.1 ((⟨a1.column, a1.row⟩ : Block))).getD 0) (-((mget eqBlock r1.2.2.1 ((⟨x1.to_.column, x1.to_.row⟩ : Block))).getD 0))), ((0 : Int)), F, rfl, H⟩ ?_
      · exact ⟨rfl, rfl, rfl, (look_slice rfl (by first | rfl | (simp; done) | omega | (simp; omega))), rfl, rfl, (look_slice rfl (by first | rfl | (simp; done) | omega | (simp; omega))), rfl, rfl, trivial⟩
      rintro mk2 _ wl7 ⟨t8_3, t41_1, F, rfl, H⟩
      have R0 := H.ext
      replace F := cut_payer_pay_L2_s F
      obtain ⟨mk2, rfl, F⟩ := F
      generalize hrec2 : cut_payer_pay_L2 a1 r1 x1 mk2 = rec2 at F
      unfold cut_payer_pay_B2 at F
      refine CW.seq fun K19 hK19 => ?_
      refine CW.region ?_
      refine LW.pure rfl rfl (RV.lss rfl rfl) ?_
      refine LW.nil (hK19 _ _ ?_)
      refine CW.seq fun K20 hK20 => ?_
      by_cases hp4 : t41_1 < ((r1.1.length : Int))
      ·
        replace F := ite_y hp4 F
        have hq4 := dec_t hp4
        refine CW.condT rfl hq4 ?_
        refine CW.skip (hK20 _ _ ?_)
        refine CW.seqJ (fun ρ wl8 => (∃ (t8_2 : Int), cut_payer_pay_k6 t41_1 rec2 t8_2 = some res ∧ ρ = [(2, .pointer (some (⟨b1, 0, none⟩))), (3, .pointer (some (⟨b2, 0, none⟩))), (4, .bool false), (5, .slice A3_0 r1.1.length c3_0), (7, .pointer (some (⟨b4, 0, none⟩))), (8, .int .i64 t8_2), (39, .slice A3_0 r1.1.length c3_0), (40, .int .i64 ((r1.1.length : Int))), (41, .int .i64 t41_1)] ∧ Hp wb wl8 ([.own A3_0 c3_0 101 4 (List.map encLink r1.1), .mp b_a0_has (encMap ekBlock ekI r1.2.2.1), .mp b_a0_passed (encMap ekLink ekI r1.2.2.2.1), .blk b1 98 [.slice A_a0_bog_worth a0.bog.worth.length c_a0_bog_worth, .map (some b_a0_has), .map (some b_a0_passed)], .blk b2 92 [.int .i64 a1.column, .int .i64 a1.row], .blk b4 92 [.int .i64 x1.to_.column, .int .i64 x1.to_.row]] ++ R))) ?_ ?_
        ·
          rintro _ wl8 ⟨t8_2, F, rfl, H⟩
          have R0 := H.ext
          unfold cut_payer_pay_k6 at F
          obtain ⟨hg8, F⟩ := gd_some F
          refine CW.region ?_
          refine LW.pure rfl rfl (RV.add rfl rfl hg8) ?_
          refine LW.pure rfl rfl (RV.move rfl) ?_
          refine LW.nil ?_
          subst hrec2
          refine ⟨mk2, Nat.lt_succ_self _, _, ?_, t8_2, (t41_1 + 1), F, rfl, H⟩
          exact ⟨rfl, rfl, rfl, (look_slice rfl (by first | rfl | (simp; done) | omega | (simp; omega))), rfl, rfl, (look_slice rfl (by first | rfl | (simp; done) | omega | (simp; omega))), rfl, rfl, trivial⟩
        ·
          intro K21 hK21 jK197
          refine CW.block ?_
          refine CW.seq fun K22 hK22 => ?_
          obtain ⟨x3, hbx3, hx3, F⟩ := ix_some F
          refine CW.region ?_
          refine LW.pure rfl rfl (RV.indexAddr Ts106 rfl rfl hbx3 ((H.own 0 rfl).sl.addr_ hx3)) ?_
          refine LW.pure rfl rfl (RV.loadA [.int .i64 x3.from_.column, .int .i64 x3.from_.row, .int .i64 x3.to_.column, .int .i64 x3.to_.row] Tk101 rfl ((H.own 0 rfl).sl.at_ hx3) rfl rfl) ?_
          refine LW.go rfl rfl (OW.alloc Tz101 fun b6 w30 N6 => ?_)
          replace H := H.new N6 N6.blk
          replace R0 := H.ext
          refine LW.go rfl rfl (OW.store Tk101 rfl rfl (H.blk 0 rfl) (off := 0) (vs := [.int .i64 x3.from_.column, .int .i64 x3.from_.row, .int .i64 x3.to_.column, .int .i64 x3.to_.row]) rfl rfl rfl rfl rfl fun w31 S3 => ?_)
          replace H : Hp wb w31 ([.blk b6 101 [.int .i64 x3.from_.column, .int .i64 x3.from_.row, .int .i64 x3.to_.column, .int .i64 x3.to_.row], .own A3_0 c3_0 101 4 (List.map encLink r1.1), .mp b_a0_has (encMap ekBlock ekI r1.2.2.1), .mp b_a0_passed (encMap ekLink ekI r1.2.2.2.1), .blk b1 98 [.slice A_a0_bog_worth a0.bog.worth.length c_a0_bog_worth, .map (some b_a0_has), .map (some b_a0_passed)], .blk b2 92 [.int .i64 a1.column, .int .i64 a1.row], .blk b4 92 [.int .i64 x1.to_.column, .int .i64 x1.to_.row]] ++ R) := H.stored 0 rfl S3
          replace R0 := H.ext
          refine LW.nil (hK22 _ _ ?_)
          refine CW.seq fun K23 hK23 => ?_
          refine CW.region ?_
          refine LW.pure rfl rfl (RV.fieldAddr Tf101_1 rfl) ?_
          refine LW.pure rfl rfl (RV.fieldAddr Tf92_1 rfl) ?_
          refine LW.pure rfl rfl (RV.load1 Tk3 rfl (((H.blk 0 rfl).cells.off 2).off 1) rfl) ?_
          refine LW.pure rfl rfl (RV.fieldAddr Tf101_0 rfl) ?_
          refine LW.pure rfl rfl (RV.fieldAddr Tf92_1 rfl) ?_
          refine LW.pure rfl rfl (RV.load1 Tk3 rfl (((H.blk 0 rfl).cells.off 0).off 1) rfl) ?_
          refine LW.pure rfl rfl (RV.gtr rfl rfl) ?_
          refine LW.nil (hK23 _ _ ?_)
          by_cases hp5 : x3.from_.row < x3.to_.row
          ·
            replace F := ite_y hp5 F
            have hq5 := dec_t hp5
            refine CW.condT rfl hq5 ?_
            refine CW.region ?_
            refine LW.pure rfl rfl (RV.move rfl) ?_
            refine LW.pure rfl rfl (RV.fieldAddr Tf98_2 rfl) ?_
            refine LW.pure rfl rfl (RV.load1 Tk96 rfl ((H.blk 4 rfl).cells.off 2) rfl) ?_
            refine LW.pure rfl rfl (RV.fieldAddr Tf101_1 rfl) ?_
            refine LW.pure rfl rfl (RV.loadA [.int .i64 x3.to_.column, .int .i64 x3.to_.row] Tk92 rfl ((H.blk 0 rfl).cells.off 2) rfl rfl) ?_
            refine LW.pure rfl rfl (RV.fieldAddr Tf101_0 rfl) ?_
            refine LW.pure rfl rfl (RV.loadA [.int .i64 x3.from_.column, .int .i64 x3.from_.row] Tk92 rfl ((H.blk 0 rfl).cells.off 0) rfl rfl) ?_
            refine LW.pure rfl rfl (RV.build (vs := [.agg #[.int .i64 x3.to_.column, .int .i64 x3.to_.row], .agg #[.int .i64 x3.from_.column, .int .i64 x3.from_.row]]) (cs := [.int .i64 x3.to_.column, .int .i64 x3.to_.row, .int .i64 x3.from_.column, .int .i64 x3.from_.row]) rfl (fun _ => by kernel_rfl)) ?_
            refine LW.pure rfl rfl (RV.lookupM (ek := ekLink) (ev' := ekI) (eq := eqLink) (m := r1.2.2.2.1) ((⟨(⟨x3.to_.column, x3.to_.row⟩ : Block), (⟨x3.from_.column, x3.from_.row⟩ : Block)⟩ : Link)) 0 KO101 Tm96 Tz3 rfl rfl (H.mp 3 rfl)) ?_
            refine LW.pure rfl rfl (RV.min2 rfl rfl) ?_
            refine LW.pure rfl rfl (RV.assign rfl) ?_
            replace H := H.pickR (C := [.blk b6 101 [.int .i64 x3.from_.column, .int .i64 x3.from_.row, .int .i64 x3.to_.column, .int .i64 x3.to_.row], .own A3_0 c3_0 101 4 (List.map encLink r1.1), .mp b_a0_has (encMap ekBlock ekI r1.2.2.1), .mp b_a0_passed (encMap ekLink ekI r1.2.2.2.1), .blk b1 98 [.slice A_a0_bog_worth a0.bog.worth.length c_a0_bog_worth, .map (some b_a0_has), .map (some b_a0_passed)], .blk b2 92 [.int .i64 a1.column, .int .i64 a1.row], .blk b4 92 [.int .i64 x1.to_.column, .int .i64 x1.to_.row]]) (C' := [.own A3_0 c3_0 101 4 (List.map encLink r1.1), .mp b_a0_has (encMap ekBlock ekI r1.2.2.1), .mp b_a0_passed (encMap ekLink ekI r1.2.2.2.1), .blk b1 98 [.slice A_a0_bog_worth a0.bog.worth.length c_a0_bog_worth, .map (some b_a0_has), .map (some b_a0_passed)], .blk b2 92 [.int .i64 a1.column, .int .i64 a1.row], .blk b4 92 [.int .i64 x1.to_.column, .int .i64 x1.to_.row]]) [1, 2, 3, 4, 5, 6] (by decide) rfl
            replace R0 := H.ext
            refine LW.nil (jK197 _ _ ⟨_, ?_, ⟨(min t8_3 ((mget eqLink r1.2.2.2.1 ((⟨(⟨x3.to_.column, x3.to_.row⟩ : Block), (⟨x3.from_.column, x3.from_.row⟩ : Block)⟩ : Link))).getD 0)), F, rfl, H⟩⟩)
            exact ⟨rfl, rfl, rfl, (look_slice rfl (by first | rfl | (simp; done) | omega | (simp; omega))), rfl, rfl, (look_slice rfl (by first | rfl | (simp; done) | omega | (simp; omega))), rfl, rfl, trivial⟩
          ·
            replace F := ite_n hp5 F
            have hq5 := dec_f hp5
            refine CW.condF rfl hq5 ?_
            replace H := H.pickR (C := [.blk b6 101 [.int .i64 x3.from_.column, .int .i64 x3.from_.row, .int .i64 x3.to_.column, .int .i64 x3.to_.row], .own A3_0 c3_0 101 4 (List.map encLink r1.1), .mp b_a0_has (encMap ekBlock ekI r1.2.2.1), .mp b_a0_passed (encMap ekLink ekI r1.2.2.2.1), .blk b1 98 [.slice A_a0_bog_worth a0.bog.worth.length c_a0_bog_worth, .map (some b_a0_has), .map (some b_a0_passed)], .blk b2 92 [.int .i64 a1.column, .int .i64 a1.row], .blk b4 92 [.int .i64 x1.to_.column, .int .i64 x1.to_.row]]) (C' := [.own A3_0 c3_0 101 4 (List.map encLink r1.1), .mp b_a0_has (encMap ekBlock ekI r1.2.2.1), .mp b_a0_passed (encMap ekLink ekI r1.2.2.2.1), .blk b1 98 [.slice A_a0_bog_worth a0.bog.worth.length c_a0_bog_worth, .map (some b_a0_has), .map (some b_a0_passed)], .blk b2 92 [.int .i64 a1.column, .int .i64 a1.row], .blk b4 92 [.int .i64 x1.to_.column, .int .i64 x1.to_.row]]) [1, 2, 3, 4, 5, 6] (by decide) rfl
            replace R0 := H.ext
            refine CW.skip (jK197 _ _ ⟨_, ?_, ⟨t8_3, F, rfl, H⟩⟩)
            exact ⟨rfl, rfl, rfl, (look_slice rfl (by first | rfl | (simp; done) | omega | (simp; omega))), rfl, rfl, (look_slice rfl (by first | rfl | (simp; done) | omega | (simp; omega))), rfl, rfl, trivial⟩
      ·
        replace F := ite_n hp4 F
        have hq4 := dec_f hp4
        refine CW.condF rfl hq4 ?_
        refine CW.exit (jK177 _ _ ⟨_, ?_, ⟨t8_3, F, rfl, H⟩⟩)
        exact ⟨rfl, rfl, rfl, (look_slice rfl (by first | rfl | (simp; done) | omega | (simp; omega))), rfl, rfl, trivial⟩
  ·
    replace F := ite_n hp1 F
    have hq1 : r1.2.1 = false := raw_f hp1
    refine CW.condT rfl (not_t hq1) ?_
    refine CW.seq fun K24 hK24 => ?_
    refine CW.region ?_
    refine LW.pure rfl rfl (RV.assign rfl) ?_
    refine LW.nil (hK24 _ _ ?_)
    refine CW.ret ?_
    obtain rfl := Option.some.inj F
    refine ⟨_, (ResOK.one rfl), ?_⟩
    replace H := H.pickR (C := [.mp b_a0_has (encMap ekBlock ekI r1.2.2.1), .mp b_a0_passed (encMap ekLink ekI r1.2.2.2.1), .mp b3 (encMap ekBlock ekBl r1.2.2.2.2), .own A3_0 c3_0 101 4 (List.map encLink r1.1), .blk b2 92 [.int .i64 a1.column, .int .i64 a1.row], .blk b1 98 [.slice A_a0_bog_worth a0.bog.worth.length c_a0_bog_worth, .map (some b_a0_has), .map (some b_a0_passed)]]) (C' := [.mp b_a0_has (encMap ekBlock ekI r1.2.2.1), .mp b_a0_passed (encMap ekLink ekI r1.2.2.2.1)]) [0, 1] (by decide) rfl
    replace R0 := H.ext
    exact ⟨(by first | rfl | (simp; done) | (simp; omega)), H⟩
end Go.D4

set_option linter.unusedVariables false
set_option linter.unusedSimpArgs false
namespace Go.D4
open Go.Tb Go.Proofs Go.RowKit
theorem Tc95 : callable Try.prog 95 = true := by kernel_rfl
theorem Tz98 : tyZ Try.prog 98 = some (.agg #[.slice none 0 0, .map none, .map none]) := by kernel_rfl
set_option maxRecDepth 20000 in
set_option maxHeartbeats 1000000 in
theorem cut_Proof_ok {a0 : Bog} {A_a0_worth : Option Addr} {c_a0_worth : Nat} {w : World} {res : (List Pass) × Int} (h_a0_worth : Sl2 w A_a0_worth c_a0_worth 1 encN a0.worth) (F : cut_Proof a0 = some res) : Calls Try.prog 59 #[.agg #[.slice A_a0_worth a0.worth.length c_a0_worth]] w (fun e w' => ∃ (A1 : Option Addr) (c1 : Nat), e = .returned (.tuple #[.slice A1 res.1.length c1, .int .i64 res.2]) ∧ Hp w w' [.own A1 c1 94 4 (List.map encPass res.1)]) := by
  refine calls_of_cw (args := [.agg #[.slice A_a0_worth a0.worth.length c_a0_worth]]) Try.func59 rfl rfl rfl rfl ?_
  have H := Hp.start w
  have R0 := H.ext
  unfold cut_Proof at F
  refine CW.seq fun K1 hK1 => ?_
  refine CW.region ?_
  refine LW.go rfl rfl (OW.box rfl fun b1 w1 N1 => ?_)
  replace H := H.new N1 N1.blk
  replace R0 := H.ext
  refine LW.pure rfl rfl (RV.assign rfl) ?_
  refine LW.pure rfl rfl (RV.assign rfl) ?_
  refine LW.nil (hK1 _ _ ?_)
  refine CW.seq fun K2 hK2 => ?_
  refine CW.seq fun K3 hK3 => ?_
  obtain ⟨r4, hr4, F⟩ := bnd_some F
  refine CW.region ?_
  refine LW.pure rfl rfl (RV.loadA [.slice A_a0_worth a0.worth.length c_a0_worth] Tk24 rfl (H.blk 0 rfl).cells rfl rfl) ?_
  refine LW.go rfl rfl (OW.call Tc25 rfl (cut_Validate_ok (a0 := a0) (h_a0_worth.ext R0) hr4) ?_)
  rintro _ w2 ⟨rfl, E1⟩
  refine ⟨_, rfl, ?_⟩
  replace H := H.grow E1
  replace R0 := H.ext
  refine LW.pure rfl rfl (RV.assign rfl) ?_
  refine LW.nil (hK3 _ _ ?_)
  refine CW.seq fun K4 hK4 => ?_
  refine CW.region ?_
  refine LW.pure rfl rfl (RV.move rfl) ?_
  refine LW.pure rfl rfl (RV.nei rfl rfl) ?_
  refine LW.nil (hK4 _ _ ?_)
  by_cases hp1 : r4 = 0
  ·
    replace F := ite_y hp1 F
    have hq1 := dec_t hp1
    refine CW.condF rfl (not_f hq1) ?_
    refine CW.skip (hK2 _ _ ?_)
    refine CW.seq fun K5 hK5 => ?_
    refine CW.region ?_
    refine LW.pure rfl rfl (RV.loadA [.slice A_a0_worth a0.worth.length c_a0_worth] Tk24 rfl (H.blk 0 rfl).cells rfl rfl) ?_
    refine LW.go rfl rfl (OW.makeMap fun b2 w3 N2 M1 => ?_)
    replace H : Hp w w3 [.mp b2 (encMap ekBlock ekI (([] : List (Block × Int)))), .blk b1 24 [.slice A_a0_worth a0.worth.length c_a0_worth]] := H.newM N2 M1
    replace R0 := H.ext
    refine LW.go rfl rfl (OW.makeMap fun b3 w4 N3 M2 => ?_)
    replace H : Hp w w4 [.mp b3 (encMap ekLink ekI (([] : List (Link × Int)))), .mp b2 (encMap ekBlock ekI (([] : List (Block × Int)))), .blk b1 24 [.slice A_a0_worth a0.worth.length c_a0_worth]] := H.newM N3 M2
    replace R0 := H.ext
    refine LW.pure rfl rfl (RV.build (vs := [.agg #[.slice A_a0_worth a0.worth.length c_a0_worth], .map (some b2), .map (some b3)]) (cs := [.slice A_a0_worth a0.worth.length c_a0_worth, .map (some b2), .map (some b3)]) rfl (fun _ => by kernel_rfl)) ?_
    refine LW.go rfl rfl (OW.alloc Tz98 fun b4 w5 N4 => ?_)
    replace H := H.new N4 N4.blk
    replace R0 := H.ext
    refine LW.go rfl rfl (OW.store Tk98 rfl rfl (H.blk 0 rfl) (off := 0) (vs := [.slice A_a0_worth a0.worth.length c_a0_worth, .map (some b2), .map (some b3)]) rfl rfl rfl rfl rfl fun w6 S1 => ?_)
    replace H : Hp w w6 [.blk b4 98 [.slice A_a0_worth a0.worth.length c_a0_worth, .map (some b2), .map (some b3)], .mp b3 (encMap ekLink ekI (([] : List (Link × Int)))), .mp b2 (encMap ekBlock ekI (([] : List (Block × Int)))), .blk b1 24 [.slice A_a0_worth a0.worth.length c_a0_worth]] := H.stored 0 rfl S1
    replace R0 := H.ext
    refine LW.nil (hK5 _ _ ?_)
    refine CW.seqJ (fun ρ wl1 => (∃ (m15 : List (Block × Int)), cut_Proof_k9 a0 m15 = some res ∧ ρ = [(1, .pointer (some (⟨b1, 0, none⟩))), (2, .slice none 0 0), (3, .int .i64 0), (5, .pointer (some (⟨b4, 0, none⟩)))] ∧ Hp w wl1 [.mp b2 (encMap ekBlock ekI m15), .mp b3 (encMap ekLink ekI (([] : List (Link × Int)))), .blk b1 24 [.slice A_a0_worth a0.worth.length c_a0_worth], .blk b4 98 [.slice A_a0_worth a0.worth.length c_a0_worth, .map (some b2), .map (some b3)]])) ?_ ?_
    ·
      rintro _ wl1 ⟨m15, F, rfl, H⟩
      have R0 := H.ext
      unfold cut_Proof_k9 at F
      refine CW.seqJ (fun ρ wl2 => (∃ (m2 : List (Block × Int)) (m1 : List (Link × Int)), cut_Proof_k5 a0 m2 m1 = some res ∧ ρ = [(1, .pointer (some (⟨b1, 0, none⟩))), (2, .slice none 0 0), (3, .int .i64 0), (5, .pointer (some (⟨b4, 0, none⟩)))] ∧ Hp w wl2 [.mp b2 (encMap ekBlock ekI m2), .mp b3 (encMap ekLink ekI m1), .blk b1 24 [.slice A_a0_worth a0.worth.length c_a0_worth], .blk b4 98 [.slice A_a0_worth a0.worth.length c_a0_worth, .map (some b2), .map (some b3)]])) ?_ ?_
      ·
        rintro _ wl2 ⟨m2, m1, F, rfl, H⟩
        have R0 := H.ext
        unfold cut_Proof_k5 at F
        refine CW.seq fun K6 hK6 => ?_
        refine CW.region ?_
        refine LW.pure rfl rfl (RV.assign rfl) ?_
        refine LW.nil (hK6 _ _ ?_)
        refine CW.seqJ (fun ρ wl3 => (∃ (l1 : List Pass) (Al1 : Option Addr) (cl1 : Nat), cut_Proof_k1 l1 = some res ∧ ρ = [(2, .slice none 0 0), (3, .int .i64 0), (13, .slice Al1 l1.length cl1)] ∧ Hp w wl3 [.own Al1 cl1 94 4 (List.map encPass l1)])) ?_ ?_
        ·
          rintro _ wl3 ⟨l1, Al1, cl1, F, rfl, H⟩
          have R0 := H.ext
          unfold cut_Proof_k1 at F
          refine CW.seq fun K7 hK7 => ?_
          refine CW.region ?_
          refine LW.pure rfl rfl (RV.move rfl) ?_
          refine LW.pure rfl rfl (RV.assign rfl) ?_
          refine LW.pure rfl rfl (RV.assign rfl) ?_
          refine LW.nil (hK7 _ _ ?_)
          refine CW.ret ?_
          obtain rfl := Option.some.inj F
          refine ⟨_, (ResOK.two rfl rfl), ?_⟩
          exact ⟨Al1, cl1, (by first | rfl | (simp; done) | (simp; omega)), H⟩
        ·
          intro K8 hK8 jK4267
          refine CW.seq fun K9 hK9 => ?_
          refine CW.region ?_
          refine LW.pure rfl rfl (RV.fieldAddr Tf24_0 rfl) ?_
          refine LW.pure rfl rfl (RV.load1 Tk22 rfl ((H.blk 2 rfl).cells.off 0) rfl) ?_
          refine LW.pure rfl rfl (RV.len Ts22 rfl) ?_
          refine LW.pure rfl rfl (RV.move rfl) ?_
          refine LW.nil (hK9 _ _ ?_)
          refine CW.block ?_
          replace H := H.nilOwn 94 4
          replace R0 := H.ext
          refine CW.loop (fun meas ρ wl4 => ∃ (t81_1 : Int) (l7 : List Pass) (Al7 : Option Addr) (cl7 : Nat), cut_Proof_L3 a0 m1 meas t81_1 l7 = some res ∧ ρ = [(1, .pointer (some (⟨b1, 0, none⟩))), (2, .slice none 0 0), (3, .int .i64 0), (5, .pointer (some (⟨b4, 0, none⟩))), (13, .slice Al7 l7.length cl7), (80, .int .i64 ((a0.worth.length : Int))), (81, .int .i64 t81_1)] ∧ Hp w wl4 [.own Al7 cl7 94 4 (List.map encPass l7), .mp b2 (encMap ekBlock ekI m2), .mp b3 (encMap ekLink ekI m1), .blk b1 24 [.slice A_a0_worth a0.worth.length c_a0_worth], .blk b4 98 [.slice A_a0_worth a0.worth.length c_a0_worth, .map (some b2), .map (some b3)]]) FU ⟨_, ?_, ((0 : Int)), (([] : List Pass)), none, 0, F, rfl, H⟩ ?_
          · exact ⟨rfl, rfl, rfl, rfl, (look_slice rfl (by first | rfl | (simp; done) | omega | (simp; omega))), rfl, rfl, trivial⟩
          rintro mk1 _ wl4 ⟨t81_1, l7, Al7, cl7, F, rfl, H⟩
          have R0 := H.ext
          replace F := cut_Proof_L3_s F
          obtain ⟨mk1, rfl, F⟩ := F
          generalize hrec1 : cut_Proof_L3 a0 m1 mk1 = rec1 at F
          unfold cut_Proof_B3 at F
          refine CW.seq fun K10 hK10 => ?_
          refine CW.region ?_
          refine LW.pure rfl rfl (RV.lss rfl rfl) ?_
          refine LW.nil (hK10 _ _ ?_)
          refine CW.seq fun K11 hK11 => ?_
          by_cases hp2 : t81_1 < ((a0.worth.length : Int))
          ·
            replace F := ite_y hp2 F
            have hq2 := dec_t hp2
            refine CW.condT rfl hq2 ?_
            refine CW.skip (hK11 _ _ ?_)
            refine CW.seqJ (fun ρ wl5 => (∃ (l2 : List Pass) (Al2 : Option Addr) (cl2 : Nat), cut_Proof_k2 t81_1 rec1 l2 = some res ∧ ρ = [(1, .pointer (some (⟨b1, 0, none⟩))), (2, .slice none 0 0), (3, .int .i64 0), (5, .pointer (some (⟨b4, 0, none⟩))), (13, .slice Al2 l2.length cl2), (80, .int .i64 ((a0.worth.length : Int))), (81, .int .i64 t81_1)] ∧ Hp w wl5 [.own Al2 cl2 94 4 (List.map encPass l2), .mp b2 (encMap ekBlock ekI m2), .mp b3 (encMap ekLink ekI m1), .blk b1 24 [.slice A_a0_worth a0.worth.length c_a0_worth], .blk b4 98 [.slice A_a0_worth a0.worth.length c_a0_worth, .map (some b2), .map (some b3)]])) ?_ ?_
            ·
              rintro _ wl5 ⟨l2, Al2, cl2, F, rfl, H⟩
              have R0 := H.ext
              unfold cut_Proof_k2 at F
              obtain ⟨hg1, F⟩ := gd_some F
              refine CW.region ?_
              refine LW.pure rfl rfl (RV.add rfl rfl hg1) ?_
              refine LW.pure rfl rfl (RV.move rfl) ?_
              refine LW.nil ?_
              subst hrec1
              refine ⟨mk1, Nat.lt_succ_self _, _, ?_, (t81_1 + 1), l2, Al2, cl2, F, rfl, H⟩
              exact ⟨rfl, rfl, rfl, rfl, (look_slice rfl (by first | rfl | (simp; done) | omega | (simp; omega))), rfl, rfl, trivial⟩
            ·
              intro K12 hK12 jK4992
              refine CW.block ?_
              refine CW.seq fun K13 hK13 => ?_
              refine CW.region ?_
              refine LW.pure rfl rfl (RV.move rfl) ?_
              refine LW.pure rfl rfl (RV.assign rfl) ?_
              refine LW.nil (hK13 _ _ ?_)
              refine CW.seq fun K14 hK14 => ?_
              refine CW.region ?_
              refine LW.pure rfl rfl (RV.assign rfl) ?_
              refine LW.nil (hK14 _ _ ?_)
              refine CW.block ?_
              refine CW.loop (fun meas ρ wl6 => ∃ (t15_1 : Int) (l6 : List Pass) (Al6 : Option Addr) (cl6 : Nat), cut_Proof_L2 a0 m1 t81_1 rec1 meas t15_1 l6 = some res ∧ ρ = [(1, .pointer (some (⟨b1, 0, none⟩))), (2, .slice none 0 0), (3, .int .i64 0), (5, .pointer (some (⟨b4, 0, none⟩))), (13, .slice Al6 l6.length cl6), (14, .int .i64 t81_1), (15, .int .i64 t15_1), (80, .int .i64 ((a0.worth.length : Int))), (81, .int .i64 t81_1)] ∧ Hp w wl6 [.own Al6 cl6 94 4 (List.map encPass l6), .mp b2 (encMap ekBlock ekI m2), .mp b3 (encMap ekLink ekI m1), .blk b1 24 [.slice A_a0_worth a0.worth.length c_a0_worth], .blk b4 98 [.slice A_a0_worth a0.worth.length c_a0_worth, .map (some b2), .map (some b3)]]) FU ⟨_, ?_, ((1 : Int)), l7, Al7, cl7, F, rfl, H⟩ ?_
              · exact ⟨rfl, rfl, rfl, rfl, (look_slice rfl (by first | rfl | (simp; done) | omega | (simp; omega))), rfl, rfl, rfl, rfl, trivial⟩
              rintro mk2 _ wl6 ⟨t15_1, l6, Al6, cl6, F, rfl, H⟩
              have R0 := H.ext
              replace F := cut_Proof_L2_s F
              obtain ⟨mk2, rfl, F⟩ := F
              generalize hrec2 : cut_Proof_L2 a0 m1 t81_1 rec1 mk2 = rec2 at F
              unfold cut_Proof_B2 at F
              refine CW.seq fun K15 hK15 => ?_
              refine CW.seq fun K16 hK16 => ?_
              obtain ⟨r1, hr1, F⟩ := bnd_some F
              refine CW.region ?_
              refine LW.pure rfl rfl (RV.move rfl) ?_
              refine LW.pure rfl rfl (RV.loadA [.slice A_a0_worth a0.worth.length c_a0_worth] Tk24 rfl (H.blk 3 rfl).cells rfl rfl) ?_
              refine LW.go rfl rfl (OW.call Tc68 rfl (cut_depth_ok (a0 := a0) (h_a0_worth.ext R0) hr1) ?_)
              rintro _ w7 ⟨rfl, E2⟩
              refine ⟨_, rfl, ?_⟩
              replace H := H.grow E2
              replace R0 := H.ext
              refine LW.pure rfl rfl (RV.lss rfl rfl) ?_
              refine LW.nil (hK16 _ _ ?_)
              by_cases hp3 : t15_1 < r1
              ·
                replace F := ite_y hp3 F
                have hq3 := dec_t hp3
                refine CW.condT rfl hq3 ?_
                refine CW.skip (hK15 _ _ ?_)
                refine CW.seqJ (fun ρ wl7 => (∃ (l3 : List Pass) (Al3 : Option Addr) (cl3 : Nat), cut_Proof_k3 t15_1 rec2 l3 = some res ∧ ρ = [(1, .pointer (some (⟨b1, 0, none⟩))), (2, .slice none 0 0), (3, .int .i64 0), (5, .pointer (some (⟨b4, 0, none⟩))), (13, .slice Al3 l3.length cl3), (14, .int .i64 t81_1), (15, .int .i64 t15_1), (80, .int .i64 ((a0.worth.length : Int))), (81, .int .i64 t81_1)] ∧ Hp w wl7 [.own Al3 cl3 94 4 (List.map encPass l3), .mp b2 (encMap ekBlock ekI m2), .mp b3 (encMap ekLink ekI m1), .blk b1 24 [.slice A_a0_worth a0.worth.length c_a0_worth], .blk b4 98 [.slice A_a0_worth a0.worth.length c_a0_worth, .map (some b2), .map (some b3)]])) ?_ ?_
                ·
                  rintro _ wl7 ⟨l3, Al3, cl3, F, rfl, H⟩
                  have R0 := H.ext
                  unfold cut_Proof_k3 at F
                  obtain ⟨hg2, F⟩ := gd_some F
                  refine CW.region ?_
                  refine LW.pure rfl rfl (RV.move rfl) ?_
                  refine LW.pure rfl rfl (RV.add rfl rfl hg2) ?_
                  refine LW.pure rfl rfl (RV.assign rfl) ?_
                  refine LW.nil ?_
                  subst hrec2
                  refine ⟨mk2, Nat.lt_succ_self _, _, ?_, (t15_1 + 1), l3, Al3, cl3, F, rfl, H⟩
                  exact ⟨rfl, rfl, rfl, rfl, (look_slice rfl (by first | rfl | (simp; done) | omega | (simp; omega))), rfl, rfl, rfl, rfl, trivial⟩
                ·
                  intro K17 hK17 jK5113
                  refine CW.block ?_
                  refine CW.seq fun K18 hK18 => ?_
                  obtain ⟨hg3, F⟩ := gd_some F
                  refine CW.region ?_
                  refine LW.pure rfl rfl (RV.move rfl) ?_
                  refine LW.pure rfl rfl (RV.sub rfl rfl hg3) ?_
                  refine LW.pure rfl rfl (RV.assign rfl) ?_
                  refine LW.nil (hK18 _ _ ?_)
                  refine CW.block ?_
                  refine CW.loop (fun meas ρ wl8 => ∃ (t16_1 : Int) (l5 : List Pass) (Al5 : Option Addr) (cl5 : Nat), cut_Proof_L1 m1 t81_1 t15_1 rec2 meas t16_1 l5 = some res ∧ ρ = [(1, .pointer (some (⟨b1, 0, none⟩))), (2, .slice none 0 0), (3, .int .i64 0), (5, .pointer (some (⟨b4, 0, none⟩))), (13, .slice Al5 l5.length cl5), (14, .int .i64 t81_1), (15, .int .i64 t15_1), (16, .int .i64 t16_1), (80, .int .i64 ((a0.worth.length : Int))), (81, .int .i64 t81_1)] ∧ Hp w wl8 [.own Al5 cl5 94 4 (List.map encPass l5), .mp b2 (encMap ekBlock ekI m2), .mp b3 (encMap ekLink ekI m1), .blk b1 24 [.slice A_a0_worth a0.worth.length c_a0_worth], .blk b4 98 [.slice A_a0_worth a0.worth.length c_a0_worth, .map (some b2), .map (some b3)]]) FU ⟨_, ?_, (t81_1 - 1), l6, Al6, cl6, F, rfl, H⟩ ?_
                  · exact ⟨rfl, rfl, rfl, rfl, (look_slice rfl (by first | rfl | (simp; done) | omega | (simp; omega))), rfl, rfl, rfl, rfl, rfl, trivial⟩
                  rintro mk3 _ wl8 ⟨t16_1, l5, Al5, cl5, F, rfl, H⟩
                  have R0 := H.ext
                  replace F := cut_Proof_L1_s F
                  obtain ⟨mk3, rfl, F⟩ := F
                  generalize hrec3 : cut_Proof_L1 m1 t81_1 t15_1 rec2 mk3 = rec3 at F
                  unfold cut_Proof_B1 at F
                  refine CW.seq fun K19 hK19 => ?_
                  refine CW.seq fun K20 hK20 => ?_
                  obtain ⟨hg4, F⟩ := gd_some F
                  refine CW.region ?_
                  refine LW.pure rfl rfl (RV.move rfl) ?_
                  refine LW.pure rfl rfl (RV.move rfl) ?_
                  refine LW.pure rfl rfl (RV.add rfl rfl hg4) ?_
                  refine LW.pure rfl rfl (RV.leq rfl rfl) ?_
                  refine LW.nil (hK20 _ _ ?_)
                  by_cases hp4 : t16_1 ≤ (t81_1 + 1)
                  ·
                    replace F := ite_y hp4 F
                    have hq4 := dec_t hp4
                    refine CW.condT rfl hq4 ?_
                    refine CW.skip (hK19 _ _ ?_)
                    refine CW.seqJ (fun ρ wl9 => (∃ (l4 : List Pass) (Al4 : Option Addr) (cl4 : Nat), cut_Proof_k4 t16_1 rec3 l4 = some res ∧ ρ = [(1, .pointer (some (⟨b1, 0, none⟩))), (2, .slice none 0 0), (3, .int .i64 0), (5, .pointer (some (⟨b4, 0, none⟩))), (13, .slice Al4 l4.length cl4), (14, .int .i64 t81_1), (15, .int .i64 t15_1), (16, .int .i64 t16_1), (80, .int .i64 ((a0.worth.length : Int))), (81, .int .i64 t81_1)] ∧ Hp w wl9 [.own Al4 cl4 94 4 (List.map encPass l4), .mp b2 (encMap ekBlock ekI m2), .mp b3 (encMap ekLink ekI m1), .blk b1 24 [.slice A_a0_worth a0.worth.length c_a0_worth], .blk b4 98 [.slice A_a0_worth a0.worth.length c_a0_worth, .map (some b2), .map (some b3)]])) ?_ ?_
                    ·
                      rintro _ wl9 ⟨l4, Al4, cl4, F, rfl, H⟩
                      have R0 := H.ext
                      unfold cut_Proof_k4 at F
                      obtain ⟨hg5, F⟩ := gd_some F
                      refine CW.region ?_
                      refine LW.pure rfl rfl (RV.move rfl) ?_
                      refine LW.pure rfl rfl (RV.add rfl rfl hg5) ?_
                      refine LW.pure rfl rfl (RV.assign rfl) ?_
                      refine LW.nil ?_
                      subst hrec3
                      refine ⟨mk3, Nat.lt_succ_self _, _, ?_, (t16_1 + 1), l4, Al4, cl4, F, rfl, H⟩
                      exact ⟨rfl, rfl, rfl, rfl, (look_slice rfl (by first | rfl | (simp; done) | omega | (simp; omega))), rfl, rfl, rfl, rfl, rfl, trivial⟩
                    ·
                      intro K21 hK21 jK5133
                      refine CW.block ?_
                      refine CW.seq fun K22 hK22 => ?_
                      obtain ⟨hg6, F⟩ := gd_some F
                      refine CW.region ?_
                      refine LW.pure rfl rfl (RV.fieldAddr Tf98_2 rfl) ?_
                      refine LW.pure rfl rfl (RV.load1 Tk96 rfl ((H.blk 4 rfl).cells.off 2) rfl) ?_
                      refine LW.pure rfl rfl (RV.move rfl) ?_
                      refine LW.pure rfl rfl (RV.move rfl) ?_
                      refine LW.pure rfl rfl (RV.build (vs := [.int .i64 t81_1, .int .i64 t15_1]) (cs := [.int .i64 t81_1, .int .i64 t15_1]) rfl (fun _ => by kernel_rfl)) ?_
                      refine LW.pure rfl rfl (RV.move rfl) ?_
                      refine LW.pure rfl rfl (RV.move rfl) ?_
                      refine LW.pure rfl rfl (RV.sub rfl rfl hg6) ?_
                      refine LW.pure rfl rfl (RV.build (vs := [.int .i64 t16_1, .int .i64 (t15_1 - 1)]) (cs := [.int .i64 t16_1, .int .i64 (t15_1 - 1)]) rfl (fun _ => by kernel_rfl)) ?_
                      refine LW.pure rfl rfl (RV.build (vs := [.agg #[.int .i64 t81_1, .int .i64 t15_1], .agg #[.int .i64 t16_1, .int .i64 (t15_1 - 1)]]) (cs := [.int .i64 t81_1, .int .i64 t15_1, .int .i64 t16_1, .int .i64 (t15_1 - 1)]) rfl (fun _ => by kernel_rfl)) ?_
                      refine LW.pure rfl rfl (RV.lookupM (ek := ekLink) (ev' := ekI) (eq := eqLink) (m := m1) ((⟨(⟨t81_1, t15_1⟩ : Block), (⟨t16_1, t15_1 - 1⟩ : Block)⟩ : Link)) 0 KO101 Tm96 Tz3 rfl rfl (H.mp 2 rfl)) ?_
                      refine LW.pure rfl rfl (RV.assign rfl) ?_
                      refine LW.nil (hK22 _ _ ?_)
                      refine CW.seq fun K23 hK23 => ?_
                      refine CW.region ?_
                      refine LW.pure rfl rfl (RV.move rfl) ?_
                      refine LW.pure rfl rfl (RV.gtr rfl rfl) ?_
                      refine LW.nil (hK23 _ _ ?_)
                      by_cases hp5 : (0 : Int) < ((mget eqLink m1 ((⟨(⟨t81_1, t15_1⟩ : Block), (⟨t16_1, t15_1 - 1⟩ : Block)⟩ : Link))).getD 0)
                      ·
                        replace F := ite_y hp5 F
                        have hq5 := dec_t hp5
                        refine CW.condT rfl hq5 ?_
                        obtain ⟨hg7, F⟩ := gd_some F
                        refine CW.region ?_
                        refine LW.pure rfl rfl (RV.move rfl) ?_
                        refine LW.pure rfl rfl (RV.move rfl) ?_
                        refine LW.pure rfl rfl (RV.move rfl) ?_
                        refine LW.pure rfl rfl (RV.move rfl) ?_
                        refine LW.pure rfl rfl (RV.move rfl) ?_
                        refine LW.pure rfl rfl (RV.build (vs := [.int .i64 t81_1, .int .i64 t15_1, .int .i64 t16_1, .int .i64 ((mget eqLink m1 ((⟨(⟨t81_1, t15_1⟩ : Block), (⟨t16_1, t15_1 - 1⟩ : Block)⟩ : Link))).getD 0)]) (cs := [.int .i64 t81_1, .int .i64 t15_1, .int .i64 t16_1, .int .i64 ((mget eqLink m1 ((⟨(⟨t81_1, t15_1⟩ : Block), (⟨t16_1, t15_1 - 1⟩ : Block)⟩ : Link))).getD 0)]) rfl (fun _ => by kernel_rfl)) ?_
                        refine LW.go rfl rfl (OW.buildSlice (e := 94) (vs := [.agg #[.int .i64 t81_1, .int .i64 t15_1, .int .i64 t16_1, .int .i64 ((mget eqLink m1 ((⟨(⟨t81_1, t15_1⟩ : Block), (⟨t16_1, t15_1 - 1⟩ : Block)⟩ : Link))).getD 0)]]) (cs := [.int .i64 t81_1, .int .i64 t15_1, .int .i64 t16_1, .int .i64 ((mget eqLink m1 ((⟨(⟨t81_1, t15_1⟩ : Block), (⟨t16_1, t15_1 - 1⟩ : Block)⟩ : Link))).getD 0)]) rfl (fun _ => by kernel_rfl) fun b5 w8 N5 => ?_)
                        replace H := H.made' (k := 4) (t := 94) (enc := encPass) (l := ([(⟨t81_1, t15_1, t16_1, (mget eqLink m1 ((⟨(⟨t81_1, t15_1⟩ : Block), (⟨t16_1, t15_1 - 1⟩ : Block)⟩ : Link))).getD 0⟩ : Pass)] : List Pass)) N5 N5.blk (fun _ => rfl) rfl (by first | decide | omega | (simp; done) | (simp; omega))
                        replace R0 := H.ext
                        refine LW.go rfl rfl (OW.appendG (enc := encPass) (l := l5) (xs := ([(⟨t81_1, t15_1, t16_1, (mget eqLink m1 ((⟨(⟨t81_1, t15_1⟩ : Block), (⟨t16_1, t15_1 - 1⟩ : Block)⟩ : Link))).getD 0⟩ : Pass)] : List Pass)) Ts55 rfl (look_slice rfl (by first | rfl | (simp; done) | (simp; omega))) (H.own 1 rfl) (H.own 0 rfl).sl (fun _ => rfl) rfl rfl hg7 (by decide) fun A2 c2 w9 O1 M3 D1 => ?_)
                        replace H : Hp w w9 [.own (some ⟨b5, 0, none⟩) ((([(⟨t81_1, t15_1, t16_1, (mget eqLink m1 ((⟨(⟨t81_1, t15_1⟩ : Block), (⟨t16_1, t15_1 - 1⟩ : Block)⟩ : Link))).getD 0⟩ : Pass)] : List Pass)).length) 94 4 (List.map encPass (([(⟨t81_1, t15_1, t16_1, (mget eqLink m1 ((⟨(⟨t81_1, t15_1⟩ : Block), (⟨t16_1, t15_1 - 1⟩ : Block)⟩ : Link))).getD 0⟩ : Pass)] : List Pass))), .own A2 c2 94 4 (List.map encPass ((l5 ++ ([(⟨t81_1, t15_1, t16_1, (mget eqLink m1 ((⟨(⟨t81_1, t15_1⟩ : Block), (⟨t16_1, t15_1 - 1⟩ : Block)⟩ : Link))).getD 0⟩ : Pass)] : List Pass)))), .mp b2 (encMap ekBlock ekI m2), .mp b3 (encMap ekLink ekI m1), .blk b1 24 [.slice A_a0_worth a0.worth.length c_a0_worth], .blk b4 98 [.slice A_a0_worth a0.worth.length c_a0_worth, .map (some b2), .map (some b3)]] := H.mod 1 rfl M3 O1 D1
                        replace R0 := H.ext
                        refine LW.pure rfl rfl (RV.assign rfl) ?_
                        replace H := H.pick (L' := [.own A2 c2 94 4 (List.map encPass ((l5 ++ ([(⟨t81_1, t15_1, t16_1, (mget eqLink m1 ((⟨(⟨t81_1, t15_1⟩ : Block), (⟨t16_1, t15_1 - 1⟩ : Block)⟩ : Link))).getD 0⟩ : Pass)] : List Pass)))), .mp b2 (encMap ekBlock ekI m2), .mp b3 (encMap ekLink ekI m1), .blk b1 24 [.slice A_a0_worth a0.worth.length c_a0_worth], .blk b4 98 [.slice A_a0_worth a0.worth.length c_a0_worth, .map (some b2), .map (some b3)]]) [1, 2, 3, 4, 5] (by decide) rfl
                        replace R0 := H.ext
                        refine LW.nil (jK5133 _ _ ⟨_, ?_, ⟨((l5 ++ ([(⟨t81_1, t15_1, t16_1, (mget eqLink m1 ((⟨(⟨t81_1, t15_1⟩ : Block), (⟨t16_1, t15_1 - 1⟩ : Block)⟩ : Link))).getD 0⟩ : Pass)] : List Pass))), A2, c2, F, rfl, H⟩⟩)
                        exact ⟨rfl, rfl, rfl, rfl, (look_slice rfl (by first | rfl | (simp; done) | omega | (simp; omega))), rfl, rfl, rfl, rfl, rfl, trivial⟩
                      ·
                        replace F := ite_n hp5 F
                        have hq5 := dec_f hp5
                        refine CW.condF rfl hq5 ?_
                        refine CW.skip (jK5133 _ _ ⟨_, ?_, ⟨l5, Al5, cl5, F, rfl, H⟩⟩)
                        exact ⟨rfl, rfl, rfl, rfl, (look_slice rfl (by first | rfl | (simp; done) | omega | (simp; omega))), rfl, rfl, rfl, rfl, rfl, trivial⟩
                  ·
                    replace F := ite_n hp4 F
                    have hq4 := dec_f hp4
                    refine CW.condF rfl hq4 ?_
                    refine CW.exit (jK5113 _ _ ⟨_, ?_, ⟨l5, Al5, cl5, F, rfl, H⟩⟩)
                    exact ⟨rfl, rfl, rfl, rfl, (look_slice rfl (by first | rfl | (simp; done) | omega | (simp; omega))), rfl, rfl, rfl, rfl, trivial⟩
              ·
                replace F := ite_n hp3 F
                have hq3 := dec_f hp3
                refine CW.condF rfl hq3 ?_
                refine CW.exit (jK4992 _ _ ⟨_, ?_, ⟨l6, Al6, cl6, F, rfl, H⟩⟩)
                exact ⟨rfl, rfl, rfl, rfl, (look_slice rfl (by first | rfl | (simp; done) | omega | (simp; omega))), rfl, rfl, trivial⟩
          ·
            replace F := ite_n hp2 F
            have hq2 := dec_f hp2
            refine CW.condF rfl hq2 ?_
            replace H := H.pick (L' := [.own Al7 cl7 94 4 (List.map encPass l7)]) [0] (by decide) rfl
            replace R0 := H.ext
            refine CW.exit (jK4267 _ _ ⟨_, ?_, ⟨l7, Al7, cl7, F, rfl, H⟩⟩)
            exact ⟨rfl, rfl, (look_slice rfl (by first | rfl | (simp; done) | omega | (simp; omega))), trivial⟩
      ·
        intro K24 hK24 jK5136
        refine CW.seq fun K25 hK25 => ?_
        refine CW.region ?_
        refine LW.pure rfl rfl (RV.assign rfl) ?_
        refine LW.nil (hK25 _ _ ?_)
        refine CW.block ?_
        refine CW.loop (fun meas ρ wl10 => ∃ (t10_5 : Bool) (m13 : List (Block × Int)) (m14 : List (Link × Int)), cut_Proof_L6 a0 meas t10_5 m13 m14 = some res ∧ ρ = [(1, .pointer (some (⟨b1, 0, none⟩))), (2, .slice none 0 0), (3, .int .i64 0), (5, .pointer (some (⟨b4, 0, none⟩))), (10, .bool t10_5)] ∧ Hp w wl10 [.mp b2 (encMap ekBlock ekI m13), .mp b3 (encMap ekLink ekI m14), .blk b1 24 [.slice A_a0_worth a0.worth.length c_a0_worth], .blk b4 98 [.slice A_a0_worth a0.worth.length c_a0_worth, .map (some b2), .map (some b3)]]) FU ⟨_, ?_, true, m15, (([] : List (Link × Int))), F, rfl, H⟩ ?_
        · exact ⟨rfl, rfl, rfl, rfl, rfl, trivial⟩
        rintro mk4 _ wl10 ⟨t10_5, m13, m14, F, rfl, H⟩
        have R0 := H.ext
        replace F := cut_Proof_L6_s F
        obtain ⟨mk4, rfl, F⟩ := F
        generalize hrec6 : cut_Proof_L6 a0 mk4 = rec6 at F
        unfold cut_Proof_B6 at F
        refine CW.seq fun K26 hK26 => ?_
        refine CW.seq fun K27 hK27 => ?_
        refine CW.region ?_
        refine LW.pure rfl rfl (RV.move rfl) ?_
        refine LW.nil (hK27 _ _ ?_)
        by_cases hp6 : t10_5 = true
        ·
          replace F := ite_y hp6 F
          have hq6 : t10_5 = true := hp6
          refine CW.condT rfl hq6 ?_
          refine CW.skip (hK26 _ _ ?_)
          refine CW.block ?_
          refine CW.seq fun K28 hK28 => ?_
          refine CW.region ?_
          refine LW.pure rfl rfl (RV.assign rfl) ?_
          refine LW.nil (hK28 _ _ ?_)
          refine CW.seq fun K29 hK29 => ?_
          refine CW.region ?_
          refine LW.pure rfl rfl (RV.fieldAddr Tf24_0 rfl) ?_
          refine LW.pure rfl rfl (RV.load1 Tk22 rfl ((H.blk 2 rfl).cells.off 0) rfl) ?_
          refine LW.pure rfl rfl (RV.len Ts22 rfl) ?_
          refine LW.pure rfl rfl (RV.move rfl) ?_
          refine LW.nil (hK29 _ _ ?_)
          refine CW.block ?_
          refine CW.loop (fun meas ρ wl11 => ∃ (t10_4 : Bool) (t54_1 : Int) (m11 : List (Block × Int)) (m12 : List (Link × Int)), cut_Proof_L5 a0 rec6 meas t10_4 t54_1 m11 m12 = some res ∧ ρ = [(1, .pointer (some (⟨b1, 0, none⟩))), (2, .slice none 0 0), (3, .int .i64 0), (5, .pointer (some (⟨b4, 0, none⟩))), (10, .bool t10_4), (53, .int .i64 ((a0.worth.length : Int))), (54, .int .i64 t54_1)] ∧ Hp w wl11 [.mp b2 (encMap ekBlock ekI m11), .mp b3 (encMap ekLink ekI m12), .blk b1 24 [.slice A_a0_worth a0.worth.length c_a0_worth], .blk b4 98 [.slice A_a0_worth a0.worth.length c_a0_worth, .map (some b2), .map (some b3)]]) FU ⟨_, ?_, false, ((0 : Int)), m13, m14, F, rfl, H⟩ ?_
          · exact ⟨rfl, rfl, rfl, rfl, rfl, rfl, rfl, trivial⟩
          rintro mk5 _ wl11 ⟨t10_4, t54_1, m11, m12, F, rfl, H⟩
          have R0 := H.ext
          replace F := cut_Proof_L5_s F
          obtain ⟨mk5, rfl, F⟩ := F
          generalize hrec4 : cut_Proof_L5 a0 rec6 mk5 = rec4 at F
          unfold cut_Proof_B5 at F
          refine CW.seq fun K30 hK30 => ?_
          refine CW.region ?_
          refine LW.pure rfl rfl (RV.lss rfl rfl) ?_
          refine LW.nil (hK30 _ _ ?_)
          refine CW.seq fun K31 hK31 => ?_
          by_cases hp7 : t54_1 < ((a0.worth.length : Int))
          ·
            replace F := ite_y hp7 F
            have hq7 := dec_t hp7
            refine CW.condT rfl hq7 ?_
            refine CW.skip (hK31 _ _ ?_)
            refine CW.seqJ (fun ρ wl12 => (∃ (t10_1 : Bool) (m3 : List (Block × Int)) (m4 : List (Link × Int)), cut_Proof_k6 t54_1 rec4 t10_1 m3 m4 = some res ∧ ρ = [(1, .pointer (some (⟨b1, 0, none⟩))), (2, .slice none 0 0), (3, .int .i64 0), (5, .pointer (some (⟨b4, 0, none⟩))), (10, .bool t10_1), (53, .int .i64 ((a0.worth.length : Int))), (54, .int .i64 t54_1)] ∧ Hp w wl12 [.mp b2 (encMap ekBlock ekI m3), .mp b3 (encMap ekLink ekI m4), .blk b1 24 [.slice A_a0_worth a0.worth.length c_a0_worth], .blk b4 98 [.slice A_a0_worth a0.worth.length c_a0_worth, .map (some b2), .map (some b3)]])) ?_ ?_
            ·
              rintro _ wl12 ⟨t10_1, m3, m4, F, rfl, H⟩
              have R0 := H.ext
              unfold cut_Proof_k6 at F
              obtain ⟨hg8, F⟩ := gd_some F
              refine CW.region ?_
              refine LW.pure rfl rfl (RV.add rfl rfl hg8) ?_
              refine LW.pure rfl rfl (RV.move rfl) ?_
              refine LW.nil ?_
              subst hrec4
              refine ⟨mk5, Nat.lt_succ_self _, _, ?_, t10_1, (t54_1 + 1), m3, m4, F, rfl, H⟩
              exact ⟨rfl, rfl, rfl, rfl, rfl, rfl, rfl, trivial⟩
            ·
              intro K32 hK32 jK5567
              refine CW.block ?_
              refine CW.seq fun K33 hK33 => ?_
              refine CW.region ?_
              refine LW.pure rfl rfl (RV.move rfl) ?_
              refine LW.pure rfl rfl (RV.assign rfl) ?_
              refine LW.nil (hK33 _ _ ?_)
              refine CW.seq fun K34 hK34 => ?_
              obtain ⟨r2, hr2, F⟩ := bnd_some F
              refine CW.region ?_
              refine LW.pure rfl rfl (RV.loadA [.slice A_a0_worth a0.worth.length c_a0_worth] Tk24 rfl (H.blk 2 rfl).cells rfl rfl) ?_
              refine LW.go rfl rfl (OW.call Tc68 rfl (cut_depth_ok (a0 := a0) (h_a0_worth.ext R0) hr2) ?_)
              rintro _ w10 ⟨rfl, E3⟩
              refine ⟨_, rfl, ?_⟩
              replace H := H.grow E3
              replace R0 := H.ext
              refine LW.pure rfl rfl (RV.move rfl) ?_
              refine LW.nil (hK34 _ _ ?_)
              refine CW.block ?_
              refine CW.loop (fun meas ρ wl13 => ∃ (t10_3 : Bool) (t59_1 : Int) (m9 : List (Block × Int)) (m10 : List (Link × Int)), cut_Proof_L4 a0 t54_1 rec4 r2 meas t10_3 t59_1 m9 m10 = some res ∧ ρ = [(1, .pointer (some (⟨b1, 0, none⟩))), (2, .slice none 0 0), (3, .int .i64 0), (5, .pointer (some (⟨b4, 0, none⟩))), (10, .bool t10_3), (11, .int .i64 t54_1), (53, .int .i64 ((a0.worth.length : Int))), (54, .int .i64 t54_1), (58, .int .i64 r2), (59, .int .i64 t59_1)] ∧ Hp w wl13 [.mp b2 (encMap ekBlock ekI m9), .mp b3 (encMap ekLink ekI m10), .blk b1 24 [.slice A_a0_worth a0.worth.length c_a0_worth], .blk b4 98 [.slice A_a0_worth a0.worth.length c_a0_worth, .map (some b2), .map (some b3)]]) FU ⟨_, ?_, t10_4, ((0 : Int)), m11, m12, F, rfl, H⟩ ?_
              · exact ⟨rfl, rfl, rfl, rfl, rfl, rfl, rfl, rfl, rfl, rfl, trivial⟩
              rintro mk6 _ wl13 ⟨t10_3, t59_1, m9, m10, F, rfl, H⟩
              have R0 := H.ext
              replace F := cut_Proof_L4_s F
              obtain ⟨mk6, rfl, F⟩ := F
              generalize hrec5 : cut_Proof_L4 a0 t54_1 rec4 r2 mk6 = rec5 at F
              unfold cut_Proof_B4 at F
              refine CW.seq fun K35 hK35 => ?_
              refine CW.region ?_
              refine LW.pure rfl rfl (RV.lss rfl rfl) ?_
              refine LW.nil (hK35 _ _ ?_)
              refine CW.seq fun K36 hK36 => ?_
              by_cases hp8 : t59_1 < r2
              ·
                replace F := ite_y hp8 F
                have hq8 := dec_t hp8
                refine CW.condT rfl hq8 ?_
                refine CW.skip (hK36 _ _ ?_)
                refine CW.seqJ (fun ρ wl14 => (∃ (t10_2 : Bool) (m5 : List (Block × Int)) (m6 : List (Link × Int)), cut_Proof_k7 t59_1 rec5 t10_2 m5 m6 = some res ∧ ρ = [(1, .pointer (some (⟨b1, 0, none⟩))), (2, .slice none 0 0), (3, .int .i64 0), (5, .pointer (some (⟨b4, 0, none⟩))), (10, .bool t10_2), (11, .int .i64 t54_1), (53, .int .i64 ((a0.worth.length : Int))), (54, .int .i64 t54_1), (58, .int .i64 r2), (59, .int .i64 t59_1)] ∧ Hp w wl14 [.mp b2 (encMap ekBlock ekI m5), .mp b3 (encMap ekLink ekI m6), .blk b1 24 [.slice A_a0_worth a0.worth.length c_a0_worth], .blk b4 98 [.slice A_a0_worth a0.worth.length c_a0_worth, .map (some b2), .map (some b3)]])) ?_ ?_
                ·
                  rintro _ wl14 ⟨t10_2, m5, m6, F, rfl, H⟩
                  have R0 := H.ext
                  unfold cut_Proof_k7 at F
                  obtain ⟨hg9, F⟩ := gd_some F
                  refine CW.region ?_
                  refine LW.pure rfl rfl (RV.add rfl rfl hg9) ?_
                  refine LW.pure rfl rfl (RV.move rfl) ?_
                  refine LW.nil ?_
                  subst hrec5
                  refine ⟨mk6, Nat.lt_succ_self _, _, ?_, t10_2, (t59_1 + 1), m5, m6, F, rfl, H⟩
                  exact ⟨rfl, rfl, rfl, rfl, rfl, rfl, rfl, rfl, rfl, rfl, trivial⟩
                ·
                  intro K37 hK37 jK5588
                  refine CW.block ?_
                  refine CW.seq fun K38 hK38 => ?_
                  refine CW.region ?_
                  refine LW.pure rfl rfl (RV.move rfl) ?_
                  refine LW.pure rfl rfl (RV.assign rfl) ?_
                  refine LW.nil (hK38 _ _ ?_)
                  refine CW.seqJ (fun ρ wl15 => (∃ (t75_1 : Bool) (m7 : List (Block × Int)) (m8 : List (Link × Int)), cut_Proof_k8 t10_3 t59_1 rec5 t75_1 m7 m8 = some res ∧ ρ = [(1, .pointer (some (⟨b1, 0, none⟩))), (2, .slice none 0 0), (3, .int .i64 0), (5, .pointer (some (⟨b4, 0, none⟩))), (10, .bool t10_3), (11, .int .i64 t54_1), (53, .int .i64 ((a0.worth.length : Int))), (54, .int .i64 t54_1), (58, .int .i64 r2), (59, .int .i64 t59_1), (75, .bool t75_1)] ∧ Hp w wl15 [.mp b2 (encMap ekBlock ekI m7), .mp b3 (encMap ekLink ekI m8), .blk b1 24 [.slice A_a0_worth a0.worth.length c_a0_worth], .blk b4 98 [.slice A_a0_worth a0.worth.length c_a0_worth, .map (some b2), .map (some b3)]])) ?_ ?_
                  ·
                    rintro _ wl15 ⟨t75_1, m7, m8, F, rfl, H⟩
                    have R0 := H.ext
                    unfold cut_Proof_k8 at F
                    by_cases hp9 : t75_1 = true
                    ·
                      replace F := ite_y hp9 F
                      have hq9 : t75_1 = true := hp9
                      refine CW.condT rfl hq9 ?_
                      refine CW.region ?_
                      refine LW.pure rfl rfl (RV.assign rfl) ?_
                      refine LW.nil (jK5588 _ _ ⟨_, ?_, ⟨true, m7, m8, F, rfl, H⟩⟩)
                      exact ⟨rfl, rfl, rfl, rfl, rfl, rfl, rfl, rfl, rfl, rfl, trivial⟩
                    ·
                      replace F := ite_n hp9 F
                      have hq9 : t75_1 = false := raw_f hp9
                      refine CW.condF rfl hq9 ?_
                      refine CW.skip (jK5588 _ _ ⟨_, ?_, ⟨t10_3, m7, m8, F, rfl, H⟩⟩)
                      exact ⟨rfl, rfl, rfl, rfl, rfl, rfl, rfl, rfl, rfl, rfl, trivial⟩
                  ·
                    intro K39 hK39 jK5590
                    by_cases hp10 : (0 : Int) < ((mget eqBlock m9 ((⟨t54_1, t59_1⟩ : Block))).getD 0)
                    ·
                      replace F := ite_y hp10 F
                      have hq10 := dec_t hp10
                      obtain ⟨r3, hr3, F⟩ := bnd_some F
                      refine CW.region ?_
                      refine LW.pure rfl rfl (RV.fieldAddr Tf98_1 rfl) ?_
                      refine LW.pure rfl rfl (RV.load1 Tk90 rfl ((H.blk 3 rfl).cells.off 1) rfl) ?_
                      refine LW.pure rfl rfl (RV.move rfl) ?_
                      refine LW.pure rfl rfl (RV.move rfl) ?_
                      refine LW.pure rfl rfl (RV.build (vs := [.int .i64 t54_1, .int .i64 t59_1]) (cs := [.int .i64 t54_1, .int .i64 t59_1]) rfl (fun _ => by kernel_rfl)) ?_
                      refine LW.pure rfl rfl (RV.lookupM (ek := ekBlock) (ev' := ekI) (eq := eqBlock) (m := m9) ((⟨t54_1, t59_1⟩ : Block)) 0 KO92 Tm90 Tz3 rfl rfl (H.mp 0 rfl)) ?_
                      refine LW.pure rfl rfl (RV.gtr rfl rfl) ?_
                      refine LW.pure rfl rfl (RV.move rfl) ?_
                      refine LW.pureYB rfl rfl rfl rfl hq10 (RV.loadA [.slice A_a0_worth a0.worth.length c_a0_worth, .map (some b2), .map (some b3)] Tk98 rfl (H.blk 3 rfl).cells rfl rfl) ?_
                      refine LW.pureYB rfl rfl rfl rfl hq10 (RV.move rfl) ?_
                      refine LW.pureYB rfl rfl rfl rfl hq10 (RV.move rfl) ?_
                      refine LW.pureYB rfl rfl rfl rfl hq10 (RV.build (vs := [.int .i64 t54_1, .int .i64 t59_1]) (cs := [.int .i64 t54_1, .int .i64 t59_1]) rfl (fun _ => by kernel_rfl)) ?_
                      replace H := H.pick (L' := [.mp b2 (encMap ekBlock ekI m9), .mp b3 (encMap ekLink ekI m10), .blk b1 24 [.slice A_a0_worth a0.worth.length c_a0_worth], .blk b4 98 [.slice A_a0_worth a0.worth.length c_a0_worth, .map (some b2), .map (some b3)]]) [0, 1, 2, 3] (by decide) rfl
                      replace R0 := H.ext
                      refine LW.yesB rfl rfl rfl rfl hq10 (OW.call Tc95 rfl (cut_payer_pay_ok (a0 := (⟨a0, m9, m10⟩ : Payer)) (a1 := (⟨t54_1, t59_1⟩ : Block)) (R := [.blk b1 24 [.slice A_a0_worth a0.worth.length c_a0_worth], .blk b4 98 [.slice A_a0_worth a0.worth.length c_a0_worth, .map (some b2), .map (some b3)]]) h_a0_worth H hr3) ?_)
                      rintro _ w11 ⟨rfl, Hq1⟩
                      refine ⟨_, rfl, ?_⟩
                      replace H : Hp w w11 [.mp b2 (encMap ekBlock ekI r3.2.1), .mp b3 (encMap ekLink ekI r3.2.2), .blk b1 24 [.slice A_a0_worth a0.worth.length c_a0_worth], .blk b4 98 [.slice A_a0_worth a0.worth.length c_a0_worth, .map (some b2), .map (some b3)]] := Hq1
                      replace R0 := H.ext
                      refine LW.pure rfl rfl (RV.pickTB rfl hq10 rfl) ?_
                      refine LW.nil (jK5590 _ _ ⟨_, ?_, ⟨r3.1, r3.2.1, r3.2.2, F, rfl, H⟩⟩)
                      exact ⟨rfl, rfl, rfl, rfl, rfl, rfl, rfl, rfl, rfl, rfl, rfl, trivial⟩
                    ·
                      replace F := ite_n hp10 F
                      have hq10 := dec_f hp10
                      refine CW.region ?_
                      refine LW.pure rfl rfl (RV.fieldAddr Tf98_1 rfl) ?_
                      refine LW.pure rfl rfl (RV.load1 Tk90 rfl ((H.blk 3 rfl).cells.off 1) rfl) ?_
                      refine LW.pure rfl rfl (RV.move rfl) ?_
                      refine LW.pure rfl rfl (RV.move rfl) ?_
                      refine LW.pure rfl rfl (RV.build (vs := [.int .i64 t54_1, .int .i64 t59_1]) (cs := [.int .i64 t54_1, .int .i64 t59_1]) rfl (fun _ => by kernel_rfl)) ?_
                      refine LW.pure rfl rfl (RV.lookupM (ek := ekBlock) (ev' := ekI) (eq := eqBlock) (m := m9) ((⟨t54_1, t59_1⟩ : Block)) 0 KO92 Tm90 Tz3 rfl rfl (H.mp 0 rfl)) ?_
                      refine LW.pure rfl rfl (RV.gtr rfl rfl) ?_
                      refine LW.pure rfl rfl (RV.move rfl) ?_
                      refine LW.noB rfl rfl rfl rfl (ne_beq (v := false) hq10 rfl) ?_
                      refine LW.noB rfl rfl rfl rfl (ne_beq (v := false) hq10 rfl) ?_
                      refine LW.noB rfl rfl rfl rfl (ne_beq (v := false) hq10 rfl) ?_
                      refine LW.noB rfl rfl rfl rfl (ne_beq (v := false) hq10 rfl) ?_
                      refine LW.noB rfl rfl rfl rfl (ne_beq (v := false) hq10 rfl) ?_
                      refine LW.pure rfl rfl (RV.pickFB rfl hq10 rfl) ?_
                      refine LW.nil (jK5590 _ _ ⟨_, ?_, ⟨false, m9, m10, F, rfl, H⟩⟩)
                      exact ⟨rfl, rfl, rfl, rfl, rfl, rfl, rfl, rfl, rfl, rfl, rfl, trivial⟩
              ·
                replace F := ite_n hp8 F
                have hq8 := dec_f hp8
                refine CW.condF rfl hq8 ?_
                refine CW.exit (jK5567 _ _ ⟨_, ?_, ⟨t10_3, m9, m10, F, rfl, H⟩⟩)
                exact ⟨rfl, rfl, rfl, rfl, rfl, rfl, rfl, trivial⟩
          ·
            replace F := ite_n hp7 F
            have hq7 := dec_f hp7
            refine CW.condF rfl hq7 ?_
            refine CW.exit ?_
            subst hrec6
            refine ⟨mk4, Nat.lt_succ_self _, _, ?_, t10_4, m11, m12, F, rfl, H⟩
            exact ⟨rfl, rfl, rfl, rfl, rfl, trivial⟩
        ·
          replace F := ite_n hp6 F
          have hq6 : t10_5 = false := raw_f hp6
          refine CW.condF rfl hq6 ?_
          refine CW.exit (jK5136 _ _ ⟨_, ?_, ⟨m13, m14, F, rfl, H⟩⟩)
          exact ⟨rfl, rfl, rfl, rfl, trivial⟩
    ·
      intro K40 hK40 jK5591
      refine CW.seq fun K41 hK41 => ?_
      refine CW.region ?_
      refine LW.pure rfl rfl (RV.fieldAddr Tf24_0 rfl) ?_
      refine LW.pure rfl rfl (RV.load1 Tk22 rfl ((H.blk 3 rfl).cells.off 0) rfl) ?_
      refine LW.pure rfl rfl (RV.len Ts22 rfl) ?_
      refine LW.pure rfl rfl (RV.move rfl) ?_
      refine LW.nil (hK41 _ _ ?_)
      refine CW.block ?_
      replace H := H.pick (L' := [.mp b2 (encMap ekBlock ekI (([] : List (Block × Int)))), .mp b3 (encMap ekLink ekI (([] : List (Link × Int)))), .blk b1 24 [.slice A_a0_worth a0.worth.length c_a0_worth], .blk b4 98 [.slice A_a0_worth a0.worth.length c_a0_worth, .map (some b2), .map (some b3)]]) [2, 1, 3, 0] (by decide) rfl
      replace R0 := H.ext
      refine CW.loop (fun meas ρ wl16 => ∃ (t30_1 : Int) (m18 : List (Block × Int)), cut_Proof_L8 a0 meas t30_1 m18 = some res ∧ ρ = [(1, .pointer (some (⟨b1, 0, none⟩))), (2, .slice none 0 0), (3, .int .i64 0), (5, .pointer (some (⟨b4, 0, none⟩))), (28, .slice A_a0_worth a0.worth.length c_a0_worth), (29, .int .i64 ((a0.worth.length : Int))), (30, .int .i64 t30_1)] ∧ Hp w wl16 [.mp b2 (encMap ekBlock ekI m18), .mp b3 (encMap ekLink ekI (([] : List (Link × Int)))), .blk b1 24 [.slice A_a0_worth a0.worth.length c_a0_worth], .blk b4 98 [.slice A_a0_worth a0.worth.length c_a0_worth, .map (some b2), .map (some b3)]]) FU ⟨_, ?_, ((0 : Int)), (([] : List (Block × Int))), F, rfl, H⟩ ?_
      · exact ⟨rfl, rfl, rfl, rfl, rfl, rfl, rfl, trivial⟩
      rintro mk7 _ wl16 ⟨t30_1, m18, F, rfl, H⟩
      have R0 := H.ext
      replace F := cut_Proof_L8_s F
      obtain ⟨mk7, rfl, F⟩ := F
      generalize hrec7 : cut_Proof_L8 a0 mk7 = rec7 at F
      unfold cut_Proof_B8 at F
      refine CW.seq fun K42 hK42 => ?_
      refine CW.region ?_
      refine LW.pure rfl rfl (RV.lss rfl rfl) ?_
      refine LW.nil (hK42 _ _ ?_)
      refine CW.seq fun K43 hK43 => ?_
      by_cases hp11 : t30_1 < ((a0.worth.length : Int))
      ·
        replace F := ite_y hp11 F
        have hq11 := dec_t hp11
        refine CW.condT rfl hq11 ?_
        refine CW.skip (hK43 _ _ ?_)
        refine CW.seqJ (fun ρ wl17 => (∃ (m16 : List (Block × Int)), cut_Proof_k10 t30_1 rec7 m16 = some res ∧ ρ = [(1, .pointer (some (⟨b1, 0, none⟩))), (2, .slice none 0 0), (3, .int .i64 0), (5, .pointer (some (⟨b4, 0, none⟩))), (28, .slice A_a0_worth a0.worth.length c_a0_worth), (29, .int .i64 ((a0.worth.length : Int))), (30, .int .i64 t30_1)] ∧ Hp w wl17 [.mp b2 (encMap ekBlock ekI m16), .mp b3 (encMap ekLink ekI (([] : List (Link × Int)))), .blk b1 24 [.slice A_a0_worth a0.worth.length c_a0_worth], .blk b4 98 [.slice A_a0_worth a0.worth.length c_a0_worth, .map (some b2), .map (some b3)]])) ?_ ?_
        ·
          rintro _ wl17 ⟨m16, F, rfl, H⟩
          have R0 := H.ext
          unfold cut_Proof_k10 at F
          obtain ⟨hg10, F⟩ := gd_some F
          refine CW.region ?_
          refine LW.pure rfl rfl (RV.add rfl rfl hg10) ?_
          refine LW.pure rfl rfl (RV.move rfl) ?_
          refine LW.nil ?_
          subst hrec7
          refine ⟨mk7, Nat.lt_succ_self _, _, ?_, (t30_1 + 1), m16, F, rfl, H⟩
          exact ⟨rfl, rfl, rfl, rfl, rfl, rfl, rfl, trivial⟩
        ·
          intro K44 hK44 jK5671
          refine CW.block ?_
          refine CW.seq fun K45 hK45 => ?_
          obtain ⟨x1, hbx1, hx1, F⟩ := ix_some F
          refine CW.region ?_
          refine LW.pure rfl rfl (RV.move rfl) ?_
          obtain ⟨A3, c3, hC1, hS1⟩ := h_a0_worth.at_ hx1
          refine LW.pure rfl rfl (RV.indexAddr Ts22 rfl rfl hbx1 (h_a0_worth.addr hbx1)) ?_
          refine LW.pure rfl rfl (RV.load1 Tk25 rfl (hC1.ext R0) rfl) ?_
          refine LW.pure rfl rfl (RV.assign rfl) ?_
          refine LW.pure rfl rfl (RV.assign rfl) ?_
          refine LW.nil (hK45 _ _ ?_)
          refine CW.seq fun K46 hK46 => ?_
          refine CW.region ?_
          refine LW.pure rfl rfl (RV.move rfl) ?_
          refine LW.pure rfl rfl (RV.len Ts25 rfl) ?_
          refine LW.pure rfl rfl (RV.move rfl) ?_
          refine LW.nil (hK46 _ _ ?_)
          refine CW.block ?_
          refine CW.loop (fun meas ρ wl18 => ∃ (t37_1 : Int) (m17 : List (Block × Int)), cut_Proof_L7 t30_1 rec7 x1 meas t37_1 m17 = some res ∧ ρ = [(1, .pointer (some (⟨b1, 0, none⟩))), (2, .slice none 0 0), (3, .int .i64 0), (5, .pointer (some (⟨b4, 0, none⟩))), (6, .int .i64 t30_1), (28, .slice A_a0_worth a0.worth.length c_a0_worth), (29, .int .i64 ((a0.worth.length : Int))), (30, .int .i64 t30_1), (35, .slice A3 x1.length c3), (36, .int .i64 ((x1.length : Int))), (37, .int .i64 t37_1)] ∧ Hp w wl18 [.mp b2 (encMap ekBlock ekI m17), .mp b3 (encMap ekLink ekI (([] : List (Link × Int)))), .blk b1 24 [.slice A_a0_worth a0.worth.length c_a0_worth], .blk b4 98 [.slice A_a0_worth a0.worth.length c_a0_worth, .map (some b2), .map (some b3)]]) FU ⟨_, ?_, ((0 : Int)), m18, F, rfl, H⟩ ?_
          · exact ⟨rfl, rfl, rfl, rfl, rfl, rfl, rfl, rfl, rfl, rfl, rfl, trivial⟩
          rintro mk8 _ wl18 ⟨t37_1, m17, F, rfl, H⟩
          have R0 := H.ext
          replace F := cut_Proof_L7_s F
          obtain ⟨mk8, rfl, F⟩ := F
          generalize hrec8 : cut_Proof_L7 t30_1 rec7 x1 mk8 = rec8 at F
          unfold cut_Proof_B7 at F
          refine CW.seq fun K47 hK47 => ?_
          refine CW.region ?_
          refine LW.pure rfl rfl (RV.lss rfl rfl) ?_
          refine LW.nil (hK47 _ _ ?_)
          refine CW.seq fun K48 hK48 => ?_
          by_cases hp12 : t37_1 < ((x1.length : Int))
          ·
            replace F := ite_y hp12 F
            have hq12 := dec_t hp12
            refine CW.condT rfl hq12 ?_
            refine CW.skip (hK48 _ _ ?_)
            refine CW.seq fun K49 hK49 => ?_
            refine CW.block ?_
            refine CW.seq fun K50 hK50 => ?_
            obtain ⟨x2, hbx2, hx2, F⟩ := ix_some F
            refine CW.region ?_
            refine LW.pure rfl rfl (RV.move rfl) ?_
            refine LW.pure rfl rfl (RV.indexAddr Ts25 rfl rfl hbx2 (hS1.addr_ hx2)) ?_
            refine LW.pure rfl rfl (RV.load1 Tk3 rfl ((hS1.at_ hx2).ext R0) rfl) ?_
            refine LW.pure rfl rfl (RV.assign rfl) ?_
            refine LW.pure rfl rfl (RV.assign rfl) ?_
            refine LW.nil (hK50 _ _ ?_)
            refine CW.region ?_
            refine LW.pure rfl rfl (RV.fieldAddr Tf98_1 rfl) ?_
            refine LW.pure rfl rfl (RV.load1 Tk90 rfl ((H.blk 3 rfl).cells.off 1) rfl) ?_
            refine LW.pure rfl rfl (RV.move rfl) ?_
            refine LW.pure rfl rfl (RV.move rfl) ?_
            refine LW.pure rfl rfl (RV.build (vs := [.int .i64 t30_1, .int .i64 t37_1]) (cs := [.int .i64 t30_1, .int .i64 t37_1]) rfl (fun _ => by kernel_rfl)) ?_
            refine LW.pure rfl rfl (RV.move rfl) ?_
            refine LW.go rfl rfl (OW.updateM (ek := ekBlock) (ev' := ekI) (eq := eqBlock) (m := m17) ((⟨t30_1, t37_1⟩ : Block)) x2 KO92 Tm90 rfl rfl rfl (H.mp 0 rfl) fun w12 M4 O2 => ?_)
            replace H : Hp w w12 [.mp b2 (encMap ekBlock ekI ((mset eqBlock m17 ((⟨t30_1, t37_1⟩ : Block)) x2))), .mp b3 (encMap ekLink ekI (([] : List (Link × Int)))), .blk b1 24 [.slice A_a0_worth a0.worth.length c_a0_worth], .blk b4 98 [.slice A_a0_worth a0.worth.length c_a0_worth, .map (some b2), .map (some b3)]] := H.setM 0 rfl M4 O2
            replace R0 := H.ext
            refine LW.nil (hK49 _ _ ?_)
            obtain ⟨hg11, F⟩ := gd_some F
            refine CW.region ?_
            refine LW.pure rfl rfl (RV.add rfl rfl hg11) ?_
            refine LW.pure rfl rfl (RV.move rfl) ?_
            refine LW.nil ?_
            subst hrec8
            refine ⟨mk8, Nat.lt_succ_self _, _, ?_, (t37_1 + 1), ((mset eqBlock m17 ((⟨t30_1, t37_1⟩ : Block)) x2)), F, rfl, H⟩
            exact ⟨rfl, rfl, rfl, rfl, rfl, rfl, rfl, rfl, rfl, rfl, rfl, trivial⟩
          ·
            replace F := ite_n hp12 F
            have hq12 := dec_f hp12
            refine CW.condF rfl hq12 ?_
            refine CW.exit (jK5671 _ _ ⟨_, ?_, ⟨m17, F, rfl, H⟩⟩)
            exact ⟨rfl, rfl, rfl, rfl, rfl, rfl, rfl, trivial⟩
      ·
        replace F := ite_n hp11 F
        have hq11 := dec_f hp11
        refine CW.condF rfl hq11 ?_
        refine CW.exit (jK5591 _ _ ⟨_, ?_, ⟨m18, F, rfl, H⟩⟩)
        exact ⟨rfl, rfl, rfl, rfl, trivial⟩
  ·
    replace F := ite_n hp1 F
    have hq1 := dec_f hp1
    refine CW.condT rfl (not_t hq1) ?_
    refine CW.seq fun K51 hK51 => ?_
    refine CW.region ?_
    refine LW.pure rfl rfl (RV.move rfl) ?_
    refine LW.pure rfl rfl (RV.assign rfl) ?_
    refine LW.pure rfl rfl (RV.assign rfl) ?_
    refine LW.nil (hK51 _ _ ?_)
    refine CW.ret ?_
    obtain rfl := Option.some.inj F
    refine ⟨_, (ResOK.two rfl rfl), ?_⟩
    replace H := H.nilOwn 94 4
    replace R0 := H.ext
    replace H := H.pick (L' := [.own none 0 94 4 (List.map encPass (([] : List Pass)))]) [0] (by decide) rfl
    replace R0 := H.ext
    exact ⟨none, 0, (by first | rfl | (simp; done) | (simp; omega)), H⟩
end Go.D4

set_option linter.unusedVariables false
set_option linter.unusedSimpArgs false
namespace Go.D4
open Go.Tb Go.Proofs Go.RowKit
theorem Tc59 : callable Try.prog 59 = true := by kernel_rfl
set_option maxRecDepth 20000 in
set_option maxHeartbeats 1000000 in
theorem law04_CutProves_ok {a0 : Bog} {A_a0_worth : Option Addr} {c_a0_worth : Nat} {w : World} {res : Bool} (h_a0_worth : Sl2 w A_a0_worth c_a0_worth 1 encN a0.worth) (F : law04_CutProves a0 = some res) : Calls Try.prog 15 #[.agg #[.slice A_a0_worth a0.worth.length c_a0_worth]] w (Rt w (.bool res)) := by
  refine calls_of_cw (args := [.agg #[.slice A_a0_worth a0.worth.length c_a0_worth]]) Try.func15 rfl rfl rfl rfl ?_
  have H := Hp.start w
  have R0 := H.ext
  unfold law04_CutProves at F
  refine CW.seq fun K1 hK1 => ?_
  refine CW.region ?_
  refine LW.go rfl rfl (OW.box rfl fun b1 w1 N1 => ?_)
  replace H := H.new N1 N1.blk
  replace R0 := H.ext
  refine LW.pure rfl rfl (RV.assign rfl) ?_
  refine LW.nil (hK1 _ _ ?_)
  refine CW.seq fun K2 hK2 => ?_
  refine CW.seq fun K3 hK3 => ?_
  obtain ⟨r1, hr1, F⟩ := bnd_some F
  refine CW.region ?_
  refine LW.pure rfl rfl (RV.loadA [.slice A_a0_worth a0.worth.length c_a0_worth] Tk24 rfl (H.blk 0 rfl).cells rfl rfl) ?_
  refine LW.go rfl rfl (OW.call Tc17 rfl (law04_Long_ok (a0 := a0) (a1 := ([] : List (List Int))) (h_a0_worth.ext R0) (Sl2.nil_) hr1) ?_)
  rintro _ w2 ⟨rfl, E1⟩
  refine ⟨_, rfl, ?_⟩
  replace H := H.grow E1
  replace R0 := H.ext
  refine LW.nil (hK3 _ _ ?_)
  by_cases hp1 : r1 = true
  ·
    replace F := ite_y hp1 F
    have hq1 : r1 = true := hp1
    refine CW.condT rfl hq1 ?_
    refine CW.seq fun K4 hK4 => ?_
    obtain ⟨r2, hr2, F⟩ := bnd_some F
    refine CW.region ?_
    refine LW.go rfl rfl (OW.call Tc18 rfl (law04_sane_ok hr2) ?_)
    rintro _ w3 ⟨rfl, E2⟩
    refine ⟨_, rfl, ?_⟩
    replace H := H.grow E2
    replace R0 := H.ext
    refine LW.pure rfl rfl (RV.assign rfl) ?_
    refine LW.nil (hK4 _ _ ?_)
    refine CW.ret ?_
    obtain rfl := Option.some.inj F
    refine ⟨_, (ResOK.one rfl), ?_⟩
    refine ⟨(by first | rfl | simp), R0⟩
  ·
    replace F := ite_n hp1 F
    have hq1 : r1 = false := raw_f hp1
    refine CW.condF rfl hq1 ?_
    refine CW.skip (hK2 _ _ ?_)
    refine CW.seq fun K5 hK5 => ?_
    obtain ⟨r3, hr3, F⟩ := bnd_some F
    refine CW.region ?_
    refine LW.pure rfl rfl (RV.loadA [.slice A_a0_worth a0.worth.length c_a0_worth] Tk24 rfl (H.blk 0 rfl).cells rfl rfl) ?_
    refine LW.go rfl rfl (OW.call Tc59 rfl (cut_Proof_ok (a0 := a0) (h_a0_worth.ext R0) hr3) ?_)
    rintro _ w4 ⟨A13_0, c13_0, rfl, E3⟩
    refine ⟨_, rfl, ?_⟩
    replace H : Hp w w4 [.own A13_0 c13_0 94 4 (List.map encPass r3.1), .blk b1 24 [.slice A_a0_worth a0.worth.length c_a0_worth]] := H.append E3
    replace R0 := H.ext
    refine LW.pure rfl rfl (RV.move rfl) ?_
    refine LW.pure rfl rfl (RV.extract rfl rfl) ?_
    refine LW.pure rfl rfl (RV.extract rfl rfl) ?_
    refine LW.pure rfl rfl (RV.assign rfl) ?_
    refine LW.pure rfl rfl (RV.assign rfl) ?_
    refine LW.nil (hK5 _ _ ?_)
    refine CW.seq fun K6 hK6 => ?_
    obtain ⟨r4, hr4, F⟩ := bnd_some F
    refine CW.region ?_
    refine LW.pure rfl rfl (RV.loadA [.slice A_a0_worth a0.worth.length c_a0_worth] Tk24 rfl (H.blk 1 rfl).cells rfl rfl) ?_
    refine LW.go rfl rfl (OW.call Tc29 rfl (ref04_Best_ok (a0 := a0) (h_a0_worth.ext R0) hr4) ?_)
    rintro _ w5 ⟨A15_0, c15_0, rfl, E4⟩
    refine ⟨_, rfl, ?_⟩
    replace H : Hp w w5 [.own A15_0 c15_0 3 1 (List.map encN r4.1), .own A13_0 c13_0 94 4 (List.map encPass r3.1), .blk b1 24 [.slice A_a0_worth a0.worth.length c_a0_worth]] := H.append E4
    replace R0 := H.ext
    refine LW.pure rfl rfl (RV.move rfl) ?_
    refine LW.pure rfl rfl (RV.extract rfl rfl) ?_
    refine LW.pure rfl rfl (RV.extract rfl rfl) ?_
    refine LW.pure rfl rfl (RV.extract rfl rfl) ?_
    refine LW.pure rfl rfl (RV.assign rfl) ?_
    refine LW.pure rfl rfl (RV.assign rfl) ?_
    refine LW.pure rfl rfl (RV.assign rfl) ?_
    refine LW.nil (hK6 _ _ ?_)
    refine CW.seq fun K7 hK7 => ?_
    refine CW.seq fun K8 hK8 => ?_
    refine CW.region ?_
    refine LW.pure rfl rfl (RV.move rfl) ?_
    refine LW.pure rfl rfl (RV.move rfl) ?_
    refine LW.pure rfl rfl (RV.nei rfl rfl) ?_
    refine LW.nil (hK8 _ _ ?_)
    by_cases hp2 : r3.2 = r4.2.2
    ·
      replace F := ite_y hp2 F
      have hq2 := dec_t hp2
      refine CW.condF rfl (not_f hq2) ?_
      refine CW.skip (hK7 _ _ ?_)
      refine CW.seq fun K9 hK9 => ?_
      refine CW.seq fun K10 hK10 => ?_
      refine CW.region ?_
      refine LW.pure rfl rfl (RV.move rfl) ?_
      refine LW.pure rfl rfl (RV.nei rfl rfl) ?_
      refine LW.nil (hK10 _ _ ?_)
      by_cases hp3 : r3.2 = 0
      ·
        replace F := ite_y hp3 F
        have hq3 := dec_t hp3
        refine CW.condF rfl (not_f hq3) ?_
        refine CW.skip (hK9 _ _ ?_)
        refine CW.seq fun K11 hK11 => ?_
        obtain ⟨r5, hr5, F⟩ := bnd_some F
        refine CW.region ?_
        refine LW.pure rfl rfl (RV.loadA [.slice A_a0_worth a0.worth.length c_a0_worth] Tk24 rfl (H.blk 2 rfl).cells rfl rfl) ?_
        refine LW.pure rfl rfl (RV.move rfl) ?_
        refine LW.go rfl rfl (OW.call Tc56 rfl (ref04_CheckProof_ok (a0 := a0) (a1 := r3.1) (h_a0_worth.ext R0) (H.own 1 rfl).sl hr5) ?_)
        rintro _ w6 ⟨rfl, E5⟩
        refine ⟨_, rfl, ?_⟩
        replace H := H.grow E5
        replace R0 := H.ext
        refine LW.pure rfl rfl (RV.move rfl) ?_
        refine LW.pure rfl rfl (RV.extract rfl rfl) ?_
        refine LW.pure rfl rfl (RV.extract rfl rfl) ?_
        refine LW.pure rfl rfl (RV.assign rfl) ?_
        refine LW.pure rfl rfl (RV.assign rfl) ?_
        refine LW.nil (hK11 _ _ ?_)
        refine CW.seq fun K12 hK12 => ?_
        by_cases hp4 : r5.2 = 0
        ·
          replace F := ite_y hp4 F
          have hq4 := dec_t hp4
          by_cases hp5 : r5.1 = r4.2.1
          ·
            replace F := ite_y hp5 F
            have hq5 := dec_t hp5
            obtain ⟨r6, hr6, F⟩ := bnd_some F
            refine CW.region ?_
            refine LW.pure rfl rfl (RV.move rfl) ?_
            refine LW.pure rfl rfl (RV.eqi rfl rfl) ?_
            refine LW.pure rfl rfl (RV.move rfl) ?_
            refine LW.pureYB rfl rfl rfl rfl hq4 (RV.move rfl) ?_
            refine LW.pureYB rfl rfl rfl rfl hq4 (RV.move rfl) ?_
            refine LW.pureYB rfl rfl rfl rfl hq4 (RV.eqi rfl rfl) ?_
            refine LW.pure rfl rfl (RV.pickTB rfl hq4 rfl) ?_
            refine LW.pure rfl rfl (RV.move rfl) ?_
            refine LW.yesB rfl rfl rfl rfl hq5 (OW.call Tc18 rfl (law04_sane_ok hr6) ?_)
            rintro _ w7 ⟨rfl, E6⟩
            refine ⟨_, rfl, ?_⟩
            replace H := H.grow E6
            replace R0 := H.ext
            refine LW.pure rfl rfl (RV.pickTB rfl hq5 rfl) ?_
            refine LW.pure rfl rfl (RV.assign rfl) ?_
            refine LW.nil (hK12 _ _ ?_)
            refine CW.ret ?_
            obtain rfl := Option.some.inj F
            refine ⟨_, (ResOK.one rfl), ?_⟩
            refine ⟨(by first | rfl | simp), R0⟩
          ·
            replace F := ite_n hp5 F
            have hq5 := dec_f hp5
            refine CW.region ?_
            refine LW.pure rfl rfl (RV.move rfl) ?_
            refine LW.pure rfl rfl (RV.eqi rfl rfl) ?_
            refine LW.pure rfl rfl (RV.move rfl) ?_
            refine LW.pureYB rfl rfl rfl rfl hq4 (RV.move rfl) ?_
            refine LW.pureYB rfl rfl rfl rfl hq4 (RV.move rfl) ?_
            refine LW.pureYB rfl rfl rfl rfl hq4 (RV.eqi rfl rfl) ?_
            refine LW.pure rfl rfl (RV.pickTB rfl hq4 rfl) ?_
            refine LW.pure rfl rfl (RV.move rfl) ?_
            refine LW.noB rfl rfl rfl rfl (ne_beq (v := false) hq5 rfl) ?_
            refine LW.pure rfl rfl (RV.pickFB rfl hq5 rfl) ?_
            refine LW.pure rfl rfl (RV.assign rfl) ?_
            refine LW.nil (hK12 _ _ ?_)
            refine CW.ret ?_
            obtain rfl := Option.some.inj F
            refine ⟨_, (ResOK.one rfl), ?_⟩
            refine ⟨(by first | rfl | simp), R0⟩
        ·
          replace F := ite_n hp4 F
          have hq4 := dec_f hp4
          refine CW.region ?_
          refine LW.pure rfl rfl (RV.move rfl) ?_
          refine LW.pure rfl rfl (RV.eqi rfl rfl) ?_
          refine LW.pure rfl rfl (RV.move rfl) ?_
          refine LW.noB rfl rfl rfl rfl (ne_beq (v := false) hq4 rfl) ?_
          refine LW.noB rfl rfl rfl rfl (ne_beq (v := false) hq4 rfl) ?_
          refine LW.noB rfl rfl rfl rfl (ne_beq (v := false) hq4 rfl) ?_
          refine LW.pure rfl rfl (RV.pickFB rfl hq4 rfl) ?_
          refine LW.pure rfl rfl (RV.move rfl) ?_
          refine LW.noB rfl rfl rfl rfl (ne_beq (v := false) rfl rfl) ?_
          refine LW.pure rfl rfl (RV.pickFB rfl rfl rfl) ?_
          refine LW.pure rfl rfl (RV.assign rfl) ?_
          refine LW.nil (hK12 _ _ ?_)
          refine CW.ret ?_
          obtain rfl := Option.some.inj F
          refine ⟨_, (ResOK.one rfl), ?_⟩
          refine ⟨(by first | rfl | simp), R0⟩
      ·
        replace F := ite_n hp3 F
        have hq3 := dec_f hp3
        refine CW.condT rfl (not_t hq3) ?_
        refine CW.seq fun K13 hK13 => ?_
        by_cases hp6 : ((r3.1.length : Int)) = 0
        ·
          replace F := ite_y hp6 F
          have hq6 := dec_t hp6
          obtain ⟨r7, hr7, F⟩ := bnd_some F
          refine CW.region ?_
          refine LW.pure rfl rfl (RV.move rfl) ?_
          refine LW.pure rfl rfl (RV.len Ts55 rfl) ?_
          refine LW.pure rfl rfl (RV.eqi rfl rfl) ?_
          refine LW.pure rfl rfl (RV.move rfl) ?_
          refine LW.yesB rfl rfl rfl rfl hq6 (OW.call Tc18 rfl (law04_sane_ok hr7) ?_)
          rintro _ w8 ⟨rfl, E7⟩
          refine ⟨_, rfl, ?_⟩
          replace H := H.grow E7
          replace R0 := H.ext
          refine LW.pure rfl rfl (RV.pickTB rfl hq6 rfl) ?_
          refine LW.pure rfl rfl (RV.assign rfl) ?_
          refine LW.nil (hK13 _ _ ?_)
          refine CW.ret ?_
          obtain rfl := Option.some.inj F
          refine ⟨_, (ResOK.one rfl), ?_⟩
          refine ⟨(by first | rfl | simp), R0⟩
        ·
          replace F := ite_n hp6 F
          have hq6 := dec_f hp6
          refine CW.region ?_
          refine LW.pure rfl rfl (RV.move rfl) ?_
          refine LW.pure rfl rfl (RV.len Ts55 rfl) ?_
          refine LW.pure rfl rfl (RV.eqi rfl rfl) ?_
          refine LW.pure rfl rfl (RV.move rfl) ?_
          refine LW.noB rfl rfl rfl rfl (ne_beq (v := false) hq6 rfl) ?_
          refine LW.pure rfl rfl (RV.pickFB rfl hq6 rfl) ?_
          refine LW.pure rfl rfl (RV.assign rfl) ?_
          refine LW.nil (hK13 _ _ ?_)
          refine CW.ret ?_
          obtain rfl := Option.some.inj F
          refine ⟨_, (ResOK.one rfl), ?_⟩
          refine ⟨(by first | rfl | simp), R0⟩
    ·
      replace F := ite_n hp2 F
      have hq2 := dec_f hp2
      refine CW.condT rfl (not_t hq2) ?_
      refine CW.seq fun K14 hK14 => ?_
      refine CW.region ?_
      refine LW.pure rfl rfl (RV.assign rfl) ?_
      refine LW.nil (hK14 _ _ ?_)
      refine CW.ret ?_
      obtain rfl := Option.some.inj F
      refine ⟨_, (ResOK.one rfl), ?_⟩
      refine ⟨(by first | rfl | simp), R0⟩
end Go.D4

namespace Go.Tb
/-- A loop over 0 .. N - 1 with a state, that is left at the first i for which p does not hold. -/
theorem scan_loop {S R : Type} (N : Nat) (p : Nat → Bool) (g : Nat → S) (L : Nat → S → Int → Option R) (yes : Option R) (no : Nat → Option R)
    (step : ∀ n i : Nat, i < N → L (n + 1) (g i) (i : Int) = if p i = true then L n (g (i + 1)) ((i + 1 : Nat) : Int) else no i)
    (stop : ∀ n : Nat, L (n + 1) (g N) (N : Int) = yes) : ∀ (d n i : Nat), N = i + d → d < n → L n (g i) (i : Int) = match (List.range' i d).find? (fun j => !p j) with | none => yes | some j => no j
  | 0, n + 1, i, hd, hn => by
    have hi : i = N := by omega
    subst hi
    rw [stop n]; rfl
  | d + 1, n + 1, i, hd, hn => by
    rw [step n i (by omega), List.range'_succ, List.find?_cons]
    cases hp : p i
    · simp
    · simp only [if_true, Bool.not_true]
      exact scan_loop N p g L yes no step stop d n (i + 1) (by omega) (by omega)
theorem find_all {p : Nat → Bool} {i d : Nat} : (List.range' i d).find? (fun j => !p j) = none ↔ ∀ j, i ≤ j → j < i + d → p j = true := by
  rw [List.find?_eq_none]
  constructor
  · intro h j h1 h2
    have := h j (by rw [List.mem_range'_1]; omega)
    simpa using this
  · intro h x hx
    rw [List.mem_range'_1] at hx
    simp [h x hx.1 hx.2]
/-- A loop over 0 .. N - 1 with a state and no way out. -/
theorem for_loop {S R : Type} (N : Nat) (g : Nat → S) (L : Nat → S → Int → Option R) (yes : Option R)
    (step : ∀ n i : Nat, i < N → L (n + 1) (g i) (i : Int) = L n (g (i + 1)) ((i + 1 : Nat) : Int))
    (stop : ∀ n : Nat, L (n + 1) (g N) (N : Int) = yes) : ∀ (d n i : Nat), N = i + d → d < n → L n (g i) (i : Int) = yes
  | 0, n + 1, i, hd, hn => by
    have hi : i = N := by omega
    subst hi
    exact stop n
  | d + 1, n + 1, i, hd, hn => by
    rw [step n i (by omega)]
    exact for_loop N g L yes step stop d n (i + 1) (by omega) (by omega)
theorem for_loop0 {S R : Type} (N : Nat) (g : Nat → S) (L : Nat → S → Int → Option R) (yes : Option R)
    (step : ∀ n i : Nat, i < N → L (n + 1) (g i) (i : Int) = L n (g (i + 1)) ((i + 1 : Nat) : Int))
    (stop : ∀ n : Nat, L (n + 1) (g N) (N : Int) = yes) (hN : N ≤ 9223372036854775807) : L FU (g 0) 0 = yes :=
  for_loop N g L yes step stop N FU 0 (by omega) (by have := FU_pos; omega)
theorem scan_loop0 {S R : Type} (N : Nat) (p : Nat → Bool) (g : Nat → S) (L : Nat → S → Int → Option R) (yes no : Option R)
    (step : ∀ n i : Nat, i < N → L (n + 1) (g i) (i : Int) = if p i = true then L n (g (i + 1)) ((i + 1 : Nat) : Int) else no)
    (stop : ∀ n : Nat, L (n + 1) (g N) (N : Int) = yes) (hN : N ≤ 9223372036854775807) : L FU (g 0) 0 = if (∀ j, j < N → p j = true) then yes else no := by
  have h := scan_loop N p g L yes (fun _ => no) step stop N FU 0 (by omega) (by have := FU_pos; omega)
  refine Eq.trans h ?_
  cases hf : (List.range' 0 N).find? (fun j => !p j) with
  | none => rw [if_pos (fun j hj => find_all.1 hf j (by omega) (by omega))]
  | some j =>
    have h1 := List.find?_some hf
    have h2 := List.mem_of_find?_eq_some hf
    rw [List.mem_range'_1] at h2
    rw [if_neg]
    intro hall
    have := hall j (by omega)
    simp [this] at h1
/-- The same over the elements of a list. -/
theorem list_loop0 {α R : Type} (l : List α) (p : α → Bool) (L : Nat → Int → Option R) (yes no : Option R)
    (step : ∀ (n i : Nat) (x : α), l[i]? = some x → L (n + 1) (i : Int) = if p x = true then L n ((i + 1 : Nat) : Int) else no)
    (stop : ∀ n : Nat, L (n + 1) (l.length : Int) = yes) (hl : l.length ≤ 9223372036854775807) : L FU 0 = if l.all p = true then yes else no := by
  have h := scan_loop0 l.length (fun i => (l[i]?.map p).getD true) (fun _ => ()) (fun n _ i => L n i) yes no (fun n i hi => by
    have hx : l[i]? = some l[i] := by simp [hi]
    rw [step n i _ hx]; simp [hx]) stop hl
  refine Eq.trans h ?_
  by_cases ha : l.all p = true
  · rw [if_pos ha, if_pos]
    intro j hj
    have := List.all_eq_true.1 ha l[j] (List.getElem_mem hj)
    simp [hj, this]
  · rw [if_neg ha, if_neg]
    intro hc
    refine ha (List.all_eq_true.2 fun x hx => ?_)
    obtain ⟨j, hj⟩ := List.getElem?_of_mem hx
    have := hc j (lt_of_at hj)
    simpa [hj] using this
end Go.Tb

set_option linter.unusedVariables false
set_option linter.unusedSimpArgs false
namespace Go.D4
open Go.Tb
theorem sane_eq : law04_sane = some true := by decide +kernel
theorem scan_from {R : Type} (N s : Nat) (p : Nat → Bool) (L : Nat → Int → Option R) (yes no : Option R)
    (step : ∀ n i : Nat, s ≤ i → i < N → L (n + 1) (i : Int) = if p i = true then L n ((i + 1 : Nat) : Int) else no)
    (stop : ∀ n i : Nat, N ≤ i → L (n + 1) (i : Int) = yes) : ∀ (d n i : Nat), s ≤ i → N ≤ i + d → d < n → L n (i : Int) = if (∀ j, j < N → i ≤ j → p j = true) then yes else no
  | 0, n + 1, i, hs, hd, hn => by
    rw [stop n i (by omega), if_pos (fun j h1 h2 => by omega)]
  | d + 1, n + 1, i, hs, hd, hn => by
    by_cases hi : N ≤ i
    · rw [stop n i hi, if_pos (fun j h1 h2 => by omega)]
    · rw [step n i hs (by omega)]
      cases hp : p i
      · rw [if_neg (by simp), if_neg (fun h => by have := h i (by omega) (Nat.le_refl _); simp [hp] at this)]
      · rw [if_pos rfl, scan_from N s p L yes no step stop d n (i + 1) (by omega) (by omega) (by omega)]
        by_cases hall : ∀ j, j < N → i + 1 ≤ j → p j = true
        · rw [if_pos hall, if_pos (fun j h1 h2 => by
            by_cases hj : j = i
            · subst hj; exact hp
            · exact hall j h1 (by omega))]
        · rw [if_neg hall, if_neg (fun h => hall fun j h1 h2 => h j h1 (by omega))]
theorem scan1 {R : Type} (N : Nat) (p : Nat → Bool) (L : Nat → Int → Option R) (yes no : Option R)
    (step : ∀ n i : Nat, 1 ≤ i → i < N → L (n + 1) (i : Int) = if p i = true then L n ((i + 1 : Nat) : Int) else no)
    (stop : ∀ n i : Nat, N ≤ i → L (n + 1) (i : Int) = yes) (hN : N ≤ 9223372036854775807) : L FU 1 = if (∀ j, j < N → 1 ≤ j → p j = true) then yes else no :=
  scan_from N 1 p L yes no step stop N FU 1 (by omega) (by omega) (by have := FU_pos; omega)
theorem for0 {S R : Type} (N : Nat) (g : Nat → S) (L : Nat → S → Int → Option R) (yes : Option R) {s0 : S} (h0 : g 0 = s0)
    (step : ∀ n i : Nat, i < N → L (n + 1) (g i) (i : Int) = L n (g (i + 1)) ((i + 1 : Nat) : Int))
    (stop : ∀ n : Nat, L (n + 1) (g N) (N : Int) = yes) (hN : N ≤ 9223372036854775807) : L FU s0 0 = yes := by
  rw [← h0]; exact for_loop0 N g L yes step stop hN
/-- A library loop: is there an element for which f holds? -/
theorem ContainsFunc_eq (l : List Int) (f : Int → Option Bool) (q : Int → Bool) (hf : ∀ x, f x = some (q x)) (hl : l.length ≤ 1000000) : slices_ContainsFunc_int l f = some (l.any q) := by
  unfold slices_ContainsFunc_int slices_IndexFunc_int
  have h := scan_loop l.length (fun i => (l[i]?.map fun x => !q x).getD true) (fun _ => ()) (fun n _ i => slices_IndexFunc_int_L1 l f n i) (some (-1)) (fun j => some (j : Int)) (fun n i hi => ?_) (fun n => ?_) l.length FU 0 (by omega) (by have := FU_pos; omega)
  · rw [bnd_eq (x := match (List.range' 0 l.length).find? (fun j => !((l[j]?.map fun x => !q x).getD true)) with | none => -1 | some j => (j : Int)) (by
      refine Eq.trans h ?_
      cases (List.range' 0 l.length).find? (fun j => !((l[j]?.map fun x => !q x).getD true)) <;> rfl)]
    congr 1
    cases hf : (List.range' 0 l.length).find? (fun j => !((l[j]?.map fun x => !q x).getD true)) with
    | none =>
      have := find_all.1 hf
      have ha : l.any q = false := List.any_eq_false.2 fun x hx => by
        obtain ⟨j, hj⟩ := List.getElem?_of_mem hx
        have := this j (by omega) (by have := lt_of_at hj; omega)
        simpa [hj] using this
      simp [ha]
    | some j =>
      have h1 := List.find?_some hf
      have h2 := List.mem_of_find?_eq_some hf
      rw [List.mem_range'_1] at h2
      have hx : l[j]? = some l[j] := List.getElem?_eq_getElem (by omega)
      rw [hx] at h1
      have ha : l.any q = true := by
        rw [List.any_eq_true]
        exact ⟨l[j], List.getElem_mem _, by simpa using h1⟩
      simp [ha]
  · show slices_IndexFunc_int_B1 l f (slices_IndexFunc_int_L1 l f n) _ = _
    have hx : l[i]? = some l[i] := by simp [hi]
    unfold slices_IndexFunc_int_B1
    rw [if_pos (by omega), ix_nat hx, bnd_eq (hf _), gd_pos (by omega), hx]
    cases h : q l[i] <;> simp [h]
  · show slices_IndexFunc_int_B1 l f (slices_IndexFunc_int_L1 l f n) _ = _
    unfold slices_IndexFunc_int_B1
    rw [if_neg (by omega)]; rfl
def within (n lo hi : Int) : Bool := decide (lo ≤ n) && decide (n ≤ hi)
theorem within_iff {n lo hi : Int} : within n lo hi = true ↔ lo ≤ n ∧ n ≤ hi := by unfold within; simp
theorem from_eq (n lo hi : Int) : cut_from n lo hi = some (within n lo hi) := by
  unfold cut_from within
  by_cases h : lo ≤ n <;> simp [h]
def dep (b : Bog) : Int := ((b.worth[0]?.getD []).length : Int)
theorem ix0 {α β : Type} {l : List α} {k : α → Option β} {x : α} (h : l[0]? = some x) : ix l 0 k = k x := ix_nat (i := 0) h
theorem depth_eq {b : Bog} (h : 1 ≤ b.worth.length) : cut_depth b = some (dep b) := by
  have hx : b.worth[0]? = some b.worth[0] := by simp
  unfold cut_depth dep
  rw [ix0 hx, hx]; rfl
theorem rdepth_eq {b : Bog} (h : 1 ≤ b.worth.length) : ref04_depth b = some (dep b) := by
  have hx : b.worth[0]? = some b.worth[0] := by simp
  unfold ref04_depth dep
  rw [ix0 hx, hx]; rfl
def okW (w : Int) : Bool := within w (-50) 50
def okCol (d : Int) (c : List Int) : Bool := decide ((c.length : Int) = d) && c.all okW
def okB (b : Bog) : Bool := within b.worth.length 1 6 && within (dep b) 1 4 && b.worth.all (okCol (dep b))
def validate (b : Bog) : Int := if okB b = true then 0 else 1
def Short (b : Bog) : Prop := b.worth.length ≤ 50 ∧ ∀ c ∈ b.worth, c.length ≤ 50
theorem Validate_1_eq (w : Int) : cut_Validate_1 w = some (!okW w) := by
  unfold cut_Validate_1; rw [bnd_eq (from_eq _ _ _)]; rfl
theorem any_not {l : List Int} : (l.any fun x => !okW x) = !(l.all okW) := by
  induction l with
  | nil => rfl
  | cons x r ih => simp [ih]
theorem Validate_eq {b : Bog} (hs : Short b) : cut_Validate b = some (validate b) := by
  unfold cut_Validate validate okB
  rw [bnd_eq (from_eq _ _ _)]
  cases h1 : within b.worth.length 1 6
  · rw [if_neg (by simp)]; unfold cut_Validate_k3; simp
  have h1' := within_iff.1 h1
  rw [if_pos rfl, bnd_eq (depth_eq (by omega)), bnd_eq (from_eq _ _ _)]
  cases h2 : within (dep b) 1 4
  · unfold cut_Validate_k3; simp
  unfold cut_Validate_k3
  rw [if_neg (by simp), list_loop0 b.worth (okCol (dep b)) (cut_Validate_L1 b) (some 0) (some 1) (fun n i x hx => ?_) (fun n => ?_) (by omega)]
  · cases b.worth.all (okCol (dep b)) <;> simp
  · have := lt_of_at hx
    have hxl := hs.2 x (List.mem_of_getElem? hx)
    show cut_Validate_B1 b (cut_Validate_L1 b n) _ = _
    unfold cut_Validate_B1 okCol
    rw [if_pos (by omega), ix_nat hx, bnd_eq (depth_eq (by omega))]
    unfold cut_Validate_k2
    by_cases hd : (x.length : Int) = dep b
    · rw [if_pos hd, bnd_eq (ContainsFunc_eq x _ _ Validate_1_eq (by omega)), any_not, gd_pos (by omega)]
      cases x.all okW <;> simp [hd]
    · rw [if_neg hd, gd_pos (by omega)]; simp [hd]
  · show cut_Validate_B1 b (cut_Validate_L1 b n) _ = _
    unfold cut_Validate_B1
    rw [if_neg (by omega)]; rfl
theorem rValidate_eq {b : Bog} (hs : Short b) : ref04_Validate b = some (validate b) := by
  unfold ref04_Validate validate okB
  by_cases h1 : (b.worth.length : Int) < 1
  · have : within b.worth.length 1 6 = false := by simp [within]; omega
    rw [if_pos h1, this]; unfold ref04_Validate_k4; simp
  rw [if_neg h1]
  by_cases h2 : (6 : Int) < b.worth.length
  · have : within b.worth.length 1 6 = false := by simp [within]; omega
    rw [if_pos h2, this]; unfold ref04_Validate_k4; simp
  rw [if_neg h2]
  have h3 : within b.worth.length 1 6 = true := within_iff.2 (by omega)
  have h0 : b.worth[0]? = some b.worth[0] := by simp
  have hd : dep b = (b.worth[0].length : Int) := by unfold dep; rw [h0]; rfl
  rw [ix0 h0, ix0 h0, h3, ← hd]
  by_cases h4 : dep b < 1
  · have : within (dep b) 1 4 = false := by simp [within]; omega
    rw [if_pos h4, this]; unfold ref04_Validate_k4; simp
  rw [if_neg h4]
  by_cases h5 : 4 < dep b
  · have : within (dep b) 1 4 = false := by simp [within]; omega
    simp only [h5, this]; unfold ref04_Validate_k4; simp
  have h6 : within (dep b) 1 4 = true := within_iff.2 (by omega)
  simp only [h5, h6, decide_false, Bool.true_and]
  unfold ref04_Validate_k4
  rw [if_neg (by simp), list_loop0 b.worth (okCol (dep b)) (ref04_Validate_L2 b) (some 0) (some 1) (fun n i x hx => ?_) (fun n => ?_) (by omega)]
  · cases b.worth.all (okCol (dep b)) <;> simp
  · have := lt_of_at hx
    have hxl := hs.2 x (List.mem_of_getElem? hx)
    show ref04_Validate_B2 b (ref04_Validate_L2 b n) _ = _
    unfold ref04_Validate_B2 okCol
    rw [if_pos (by omega), ix_nat hx, ix0 h0, ← hd]
    by_cases hdd : (x.length : Int) = dep b
    · rw [if_pos hdd, list_loop0 x okW (ref04_Validate_L1 b i (ref04_Validate_L2 b n)) (ref04_Validate_L2 b n ((i + 1 : Nat) : Int)) (some 1) (fun m j v hv => ?_) (fun m => ?_) (by omega)]
      · cases x.all okW <;> simp [hdd]
      · have := lt_of_at hv
        show ref04_Validate_B1 b i (ref04_Validate_L2 b n) (ref04_Validate_L1 b i (ref04_Validate_L2 b n) m) _ = _
        unfold ref04_Validate_B1
        rw [ix_nat hx, if_pos (by omega), ix_nat hx, ix_nat hv]
        unfold ref04_Validate_k3
        by_cases hb : (50 : Int) < v
        · rw [if_pos hb]; simp [okW, within]; omega
        · rw [if_neg hb, ix_nat hx, ix_nat hv, gd_pos (by omega)]
          by_cases hc : v < -50
          · simp [hc, okW, within]; omega
          · have : okW v = true := within_iff.2 (by omega)
            simp [hc, this]
      · show ref04_Validate_B1 b i (ref04_Validate_L2 b n) (ref04_Validate_L1 b i (ref04_Validate_L2 b n) m) _ = _
        unfold ref04_Validate_B1
        rw [ix_nat hx, if_neg (by omega)]
        unfold ref04_Validate_k2
        rw [gd_pos (by omega)]; rfl
    · rw [if_neg hdd]; simp [hdd]
  · show ref04_Validate_B2 b (ref04_Validate_L2 b n) _ = _
    unfold ref04_Validate_B2
    rw [if_neg (by omega)]; rfl
end Go.D4

set_option linter.unusedVariables false
set_option linter.unusedSimpArgs false
namespace Go.D4
open Go.Tb
def gi (l : List Int) (i : Nat) : Int := l.getD i 0
theorem gi_of {l : List Int} {i : Nat} {x : Int} (h : l[i]? = some x) : gi l i = x := by simp [gi, List.getD, h]
def rightB (h : List Int) : Bool := decide (∀ j, j < h.length → 1 ≤ j → within (gi h j - gi h (j - 1)) (-1) 1 = true)
def okL (b : Bog) (h : List Int) : Bool := decide ((h.length : Int) = b.worth.length) && h.all (fun n => within n 0 (dep b))
def listE (b : Bog) (h : List Int) : Int := if validate b = 0 then (if okL b h = true then 0 else 1) else validate b
def hollowE (b : Bog) (h : List Int) : Int := if listE b h = 0 then (if rightB h = true then 0 else 6) else listE b h
structure Ok (b : Bog) : Prop where
  n1 : 1 ≤ b.worth.length
  n6 : b.worth.length ≤ 6
  d1 : 1 ≤ dep b
  d4 : dep b ≤ 4
  col : ∀ c ∈ b.worth, (c.length : Int) = dep b ∧ ∀ w ∈ c, -50 ≤ w ∧ w ≤ 50
theorem okB_iff {b : Bog} : okB b = true ↔ Ok b := by
  unfold okB
  simp only [Bool.and_eq_true, within_iff, List.all_eq_true, okCol, decide_eq_true_eq, okW]
  constructor
  · rintro ⟨⟨h1, h2⟩, h3⟩
    exact ⟨by omega, by omega, h2.1, h2.2, h3⟩
  · intro h
    exact ⟨⟨⟨by have := h.n1; omega, by have := h.n6; omega⟩, h.d1, h.d4⟩, h.col⟩
theorem val0 {b : Bog} : validate b = 0 ↔ Ok b := by
  rw [← okB_iff]; unfold validate; split <;> simp_all
theorem okL_iff {b : Bog} {h : List Int} : okL b h = true ↔ h.length = b.worth.length ∧ ∀ x ∈ h, 0 ≤ x ∧ x ≤ dep b := by
  unfold okL
  simp only [Bool.and_eq_true, decide_eq_true_eq, List.all_eq_true, within_iff]
  constructor
  · rintro ⟨h1, h2⟩; exact ⟨by omega, h2⟩
  · rintro ⟨h1, h2⟩; exact ⟨by omega, h2⟩
theorem list0 {b : Bog} {h : List Int} : listE b h = 0 ↔ Ok b ∧ okL b h = true := by
  unfold listE
  constructor
  · intro h0
    split at h0
    · rename_i hv
      split at h0
      · rename_i ho; exact ⟨val0.1 hv, ho⟩
      · cases h0
    · rename_i hv; exact absurd h0 hv
  · rintro ⟨h1, h2⟩
    rw [if_pos (val0.2 h1), if_pos h2]
theorem hollow0 {b : Bog} {h : List Int} : hollowE b h = 0 ↔ Ok b ∧ okL b h = true ∧ rightB h = true := by
  unfold hollowE
  constructor
  · intro h0
    split at h0
    · rename_i hv
      split at h0
      · rename_i ho; exact ⟨(list0.1 hv).1, (list0.1 hv).2, ho⟩
      · cases h0
    · rename_i hv; exact absurd h0 hv
  · rintro ⟨h1, h2, h3⟩
    rw [if_pos (list0.2 ⟨h1, h2⟩), if_pos h3]
theorem rright_eq {h : List Int} (hl : h.length ≤ 1000000) (hb : ∀ x ∈ h, -1000 ≤ x ∧ x ≤ 1000) : ref04_right h = some (rightB h) := by
  unfold ref04_right rightB
  rw [scan1 h.length (fun j => within (gi h j - gi h (j - 1)) (-1) 1) (ref04_right_L1 h) (some true) (some false) (fun n i h1 hi => ?_) (fun n i hi => ?_) (by omega)]
  · by_cases hp : ∀ j, j < h.length → 1 ≤ j → within (gi h j - gi h (j - 1)) (-1) 1 = true
    · rw [if_pos hp, decide_eq_true hp]
    · rw [if_neg hp, decide_eq_false hp]
  · have hx : h[i]? = some h[i] := by simp [hi]
    have hy : h[i - 1]? = some h[i - 1] := List.getElem?_eq_getElem (by omega)
    have bx := hb h[i] (List.getElem_mem _)
    have by_ := hb h[i - 1] (List.getElem_mem _)
    show ref04_right_B1 h (ref04_right_L1 h n) _ = _
    unfold ref04_right_B1 ref04_right_k2
    rw [if_pos (by omega), ix_nat hx, gd_pos (by omega), show ((i : Int) - 1) = ((i - 1 : Nat) : Int) by omega, ix_nat hy, gd_pos (by omega), gi_of hx, gi_of hy]
    by_cases h1 : (1 : Int) < h[i] - h[i - 1]
    · rw [if_pos h1]; simp [within]; omega
    · rw [if_neg h1, gd_pos (by omega), ix_nat hy, ix_nat hx, gd_pos (by omega), gd_pos (by omega)]
      by_cases h2 : (1 : Int) < h[i - 1] - h[i]
      · simp [h2, within]; omega
      · have : within (h[i] - h[i - 1]) (-1) 1 = true := within_iff.2 (by omega)
        simp [h2, this]
  · show ref04_right_B1 h (ref04_right_L1 h n) _ = _
    unfold ref04_right_B1
    rw [if_neg (by omega)]; rfl
def isum : List Int → Int
  | [] => 0
  | x :: r => x + isum r
theorem isum_append (l m : List Int) : isum (l ++ m) = isum l + isum m := by
  induction l with
  | nil => simp [isum]
  | cons x r ih => simp [isum, ih]; omega
theorem isum_take {l : List Int} {j : Nat} {x : Int} (h : l[j]? = some x) : isum (l.take (j + 1)) = isum (l.take j) + x := by
  have hj := lt_of_at h
  rw [List.take_succ_eq_append_getElem hj, isum_append]
  have : l[j] = x := by rw [List.getElem?_eq_getElem hj] at h; exact Option.some.inj h
  simp [isum, this]
theorem isum_bnd {l : List Int} (h : ∀ x ∈ l, -50 ≤ x ∧ x ≤ 50) : -50 * (l.length : Int) ≤ isum l ∧ isum l ≤ 50 * (l.length : Int) := by
  induction l with
  | nil => simp [isum]
  | cons x r ih =>
    have := ih (fun y hy => h y (List.mem_cons_of_mem _ hy))
    have := h x (List.mem_cons_self ..)
    simp only [isum, List.length_cons]
    omega
def colW (b : Bog) (c : Nat) (n : Int) : Int := isum ((b.worth.getD c []).take n.toNat)
def wsum (b : Bog) (h : List Int) : Nat → Int
  | 0 => 0
  | c + 1 => wsum b h c + colW b c (gi h c)
theorem col_of {b : Bog} {c : Nat} {x : List Int} (h : b.worth[c]? = some x) (n : Int) : colW b c n = isum (x.take n.toNat) := by simp [colW, List.getD, h]
theorem colW_bnd {b : Bog} (hb : Ok b) (c : Nat) (n : Int) : -200 ≤ colW b c n ∧ colW b c n ≤ 200 := by
  unfold colW
  have : ∀ x ∈ (b.worth.getD c []).take n.toNat, -50 ≤ x ∧ x ≤ 50 := fun x hx => by
    have hx := List.mem_of_mem_take hx
    by_cases hc : c < b.worth.length
    · have : b.worth.getD c [] = b.worth[c] := by simp [List.getD, hc]
      rw [this] at hx
      exact (hb.col _ (List.getElem_mem hc)).2 x hx
    · have : b.worth.getD c [] = [] := by simp [List.getD]; rw [List.getElem?_eq_none (by omega)]; rfl
      rw [this] at hx; cases hx
  have h1 := isum_bnd this
  have h2 : ((b.worth.getD c []).take n.toNat).length ≤ 4 := by
    rw [List.length_take]
    by_cases hc : c < b.worth.length
    · have e : b.worth.getD c [] = b.worth[c] := by simp [List.getD, hc]
      have := (hb.col _ (List.getElem_mem hc)).1
      have := hb.d4
      rw [e]; omega
    · have : b.worth.getD c [] = [] := by simp [List.getD]; rw [List.getElem?_eq_none (by omega)]; rfl
      rw [this]; simp
  omega
theorem wsum_bnd {b : Bog} (hb : Ok b) (h : List Int) : ∀ c : Nat, -200 * (c : Int) ≤ wsum b h c ∧ wsum b h c ≤ 200 * (c : Int)
  | 0 => by simp [wsum]
  | c + 1 => by
    have h1 := wsum_bnd hb h c
    have h2 := colW_bnd hb c (gi h c)
    simp only [wsum]
    omega
theorem rworth_eq {b : Bog} {h : List Int} (hb : Ok b) (ho : okL b h = true) : ref04_worth b h = some (wsum b h h.length) := by
  have ⟨hl, hx⟩ := okL_iff.1 ho
  have h6 := hb.n6
  unfold ref04_worth
  refine Eq.trans (for_loop0 h.length (wsum b h) (fun n s i => ref04_worth_L2 b h n s i) (some (wsum b h h.length)) (fun n i hi => ?_) (fun n => ?_) (by omega)) rfl
  · have hv : h[i]? = some h[i] := by simp [hi]
    have hc : b.worth[i]? = some b.worth[i] := List.getElem?_eq_getElem (by omega)
    have hcol := hb.col b.worth[i] (List.getElem_mem _)
    have hxi := hx h[i] (List.getElem_mem _)
    have hd := hb.d4
    show ref04_worth_B2 b h (ref04_worth_L2 b h n) _ _ = _
    unfold ref04_worth_B2
    rw [if_pos (by omega)]
    have hws := wsum_bnd hb h i
    refine Eq.trans (for0 (h[i]).toNat (fun j => wsum b h i + isum (b.worth[i].take j)) (fun m s j => ref04_worth_L1 b h i (ref04_worth_L2 b h n) m s j) (ref04_worth_L2 b h n (wsum b h (i + 1)) ((i + 1 : Nat) : Int)) (by simp [isum]) (fun m j hj => ?_) (fun m => ?_) (by omega)) rfl
    · have hjc : j < b.worth[i].length := by omega
      have hw : b.worth[i][j]? = some b.worth[i][j] := by simp only [List.getElem?_eq_getElem hjc]
      have hs := isum_bnd (l := b.worth[i].take j) (fun x hm => hcol.2 x (List.mem_of_mem_take hm))
      have hwb := hcol.2 _ (List.getElem_mem hjc)
      have hjl : (List.take j b.worth[i]).length ≤ 4 := by rw [List.length_take]; omega
      show ref04_worth_B1 b h i (ref04_worth_L2 b h n) (ref04_worth_L1 b h i (ref04_worth_L2 b h n) m) _ _ = _
      unfold ref04_worth_B1
      rw [ix_nat hv, if_pos (by omega), ix_nat hc, ix_nat hw, gd_pos (by omega), gd_pos (by omega), isum_take hw, Int.add_assoc]
      rfl
    · show ref04_worth_B1 b h i (ref04_worth_L2 b h n) (ref04_worth_L1 b h i (ref04_worth_L2 b h n) m) _ _ = _
      unfold ref04_worth_B1
      rw [ix_nat hv, if_neg (by omega)]
      unfold ref04_worth_k2
      rw [gd_pos (by omega)]
      show ref04_worth_L2 b h n _ _ = ref04_worth_L2 b h n (wsum b h i + colW b i (gi h i)) _
      rw [gi_of hv, col_of hc]
      rfl
  · show ref04_worth_B2 b h (ref04_worth_L2 b h n) _ _ = _
    unfold ref04_worth_B2
    rw [if_neg (by omega)]; rfl
def worthR (b : Bog) (h : List Int) : Int × Int := if hollowE b h = 0 then (wsum b h h.length, 0) else (0, hollowE b h)
def longB (b : Bog) (ls : List (List Int)) : Bool := !(ls.all fun l => !decide ((100 : Int) < l.length)) || (!(b.worth.all fun l => !decide ((50 : Int) < l.length)) || decide ((50 : Int) < b.worth.length))
theorem Long_eq {b : Bog} {ls : List (List Int)} (h1 : ls.length ≤ 9223372036854775807) (h2 : b.worth.length ≤ 9223372036854775807) : law04_Long b ls = some (longB b ls) := by
  unfold law04_Long longB
  rw [list_loop0 ls (fun l => !decide ((100 : Int) < l.length)) (law04_Long_L2 b ls) (law04_Long_k2 b) (some true) (fun n i x hx => ?_) (fun n => ?_) h1]
  · cases ls.all fun l => !decide ((100 : Int) < l.length)
    · simp
    · simp only [if_true, Bool.not_true, Bool.false_or]
      unfold law04_Long_k2
      rw [list_loop0 b.worth (fun l => !decide ((50 : Int) < l.length)) (law04_Long_L1 b) (law04_Long_k1 b) (some true) (fun n i x hx => ?_) (fun n => ?_) h2]
      · cases b.worth.all fun l => !decide ((50 : Int) < l.length)
        · simp
        · simp [law04_Long_k1]
      · have := lt_of_at hx
        show law04_Long_B1 b (law04_Long_L1 b n) _ = _
        unfold law04_Long_B1
        rw [if_pos (by omega), ix_nat hx, gd_pos (by omega)]
        by_cases h : (50 : Int) < x.length <;> simp [h]
      · show law04_Long_B1 b (law04_Long_L1 b n) _ = _
        unfold law04_Long_B1
        rw [if_neg (by omega)]
  · have := lt_of_at hx
    show law04_Long_B2 b ls (law04_Long_L2 b ls n) _ = _
    unfold law04_Long_B2
    rw [if_pos (by omega), ix_nat hx, gd_pos (by omega)]
    by_cases h : (100 : Int) < x.length <;> simp [h]
  · show law04_Long_B2 b ls (law04_Long_L2 b ls n) _ = _
    unfold law04_Long_B2
    rw [if_neg (by omega)]
theorem long_short {b : Bog} {ls : List (List Int)} (h : longB b ls = false) : Short b ∧ ∀ l ∈ ls, l.length ≤ 100 := by
  unfold longB at h
  simp only [Bool.or_eq_false_iff, Bool.not_eq_false', List.all_eq_true, Bool.not_eq_true', decide_eq_false_iff_not] at h
  obtain ⟨h1, h2, h3⟩ := h
  exact ⟨⟨by omega, fun c hc => by have := h2 c hc; omega⟩, fun l hl => by have := h1 l hl; omega⟩
end Go.D4

set_option linter.unusedVariables false
set_option linter.unusedSimpArgs false
namespace Go.D4
open Go.Tb
def bump (h : List Int) (c : Nat) : List Int := h.set c (gi h c + 1)
def openB (b : Bog) (h : List Int) (c : Nat) : Bool := decide (gi h c + 1 ≤ dep b) && rightB (bump h c)
theorem gi_mem {h : List Int} {c : Nat} (hc : c < h.length) : gi h c ∈ h := by
  have : h[c]? = some h[c] := by simp [hc]
  rw [gi_of this]; exact List.getElem_mem hc
theorem gi_at {h : List Int} {c : Nat} (hc : c < h.length) : h[c]? = some (gi h c) := by
  have : h[c]? = some h[c] := by simp [hc]
  rw [gi_of this]; exact this
theorem bump_hollow {b : Bog} {h : List Int} (hb : Ok b) (ho : okL b h = true) {c : Nat} (hc : c < h.length) (hop : openB b h c = true) : hollowE b (bump h c) = 0 := by
  unfold openB at hop
  simp only [Bool.and_eq_true, decide_eq_true_eq] at hop
  refine hollow0.2 ⟨hb, okL_iff.2 ⟨by simp [bump, (okL_iff.1 ho).1], fun x hx => ?_⟩, hop.2⟩
  unfold bump at hx
  rcases List.mem_or_eq_of_mem_set hx with h1 | h1
  · exact (okL_iff.1 ho).2 x h1
  · have := (okL_iff.1 ho).2 _ (gi_mem hc)
    omega
end Go.D4

set_option linter.unusedVariables false
set_option linter.unusedSimpArgs false
namespace Go.D4
open Go.Tb
def inCols (b : Bog) (c : Int) : Bool := within c 0 ((b.worth.length : Int) - 1)
/-- The hollow after the first i columns of an order (a column that is not open changes nothing). -/
def ordN (b : Bog) (o : List Int) : Nat → List Int
  | 0 => List.replicate b.worth.length 0
  | i + 1 => if openB b (ordN b o i) (gi o i).toNat = true then bump (ordN b o i) (gi o i).toNat else ordN b o i
theorem okL_zero {b : Bog} (hb : Ok b) : okL b (List.replicate b.worth.length 0) = true :=
  okL_iff.2 ⟨by simp, fun x hx => by have := List.eq_of_mem_replicate hx; have := hb.d1; omega⟩
def ordP (b : Bog) (o : List Int) (i : Nat) : Bool := openB b (ordN b o i) (gi o i).toNat
def orderR (b : Bog) (o : List Int) : List Int × Int × Int :=
  match (List.range' 0 o.length).find? (fun j => !ordP b o j) with
  | none => (ordN b o o.length, (o.length : Int), 0)
  | some j => ([], (j : Int), 6)
def checkR (b : Bog) (o : List Int) : List Int × Int × Int :=
  if validate b = 0 then (if (24 : Int) < o.length then ([], 0, 3) else if o.all (inCols b) = true then orderR b o else ([], 0, 4)) else ([], 0, validate b)
end Go.D4

set_option linter.unusedVariables false
set_option linter.unusedSimpArgs false
namespace Go.D4
open Go.Tb
theorem zw_at {f : Int → Int → Int} {h k : List Int} {i : Nat} {x y : Int} (hx : h[i]? = some x) (hy : k[i]? = some y) : (List.zipWith f h k)[i]? = some (f x y) := by
  rw [List.getElem?_zipWith, hx, hy]
theorem zw_gi {f : Int → Int → Int} {h k : List Int} (hl : k.length = h.length) {i : Nat} (hi : i < h.length) : gi (List.zipWith f h k) i = f (gi h i) (gi k i) :=
  gi_of (zw_at (gi_at hi) (gi_at (by omega)))
/-- One row taken in, the first j columns of it. -/
def mixN (f : Int → Int → Int) (s r : List Int) (j : Nat) : List Int := (List.zipWith f s r).take j ++ s.drop j
theorem mix_step {f : Int → Int → Int} {s r : List Int} (hl : r.length = s.length) {j : Nat} (hj : j < s.length) : (mixN f s r j)[j]? = some (gi s j) ∧ (mixN f s r j).set j (f (gi s j) (gi r j)) = mixN f s r (j + 1) ∧ (mixN f s r j).length = s.length := by
  have hz := zw_at (f := f) (gi_at hj) (gi_at (h := r) (c := j) (by omega))
  have hzl : ((List.zipWith f s r).take j).length = j := by simp; omega
  have hd : s.drop j = gi s j :: s.drop (j + 1) := by
    rw [List.drop_eq_getElem_cons hj]
    congr 1
    have := gi_at hj
    rw [List.getElem?_eq_getElem hj] at this
    exact Option.some.inj this
  refine ⟨?_, ?_, by unfold mixN; simp; omega⟩
  · unfold mixN
    rw [List.getElem?_append_right (by omega), hzl, hd]; simp
  · unfold mixN
    rw [List.set_append_right _ _ (by omega), hzl, hd, Nat.sub_self, List.set_cons_zero, List.take_add_one, hz]
    simp
def foldN (f : Int → Int → Int) (x : List Int) (ll : List (List Int)) : List Int := ll.foldl (fun s r => List.zipWith f s r) x
theorem fold_len {f : Int → Int → Int} {m : Nat} : ∀ (ll : List (List Int)) (x : List Int), x.length = m → (∀ r ∈ ll, r.length = m) → (foldN f x ll).length = m
  | [], x, hx, h => hx
  | r :: ll, x, hx, h => by
    refine fold_len ll _ ?_ (fun q hq => h q (List.mem_cons_of_mem _ hq))
    have := h r (List.mem_cons_self ..)
    simp; omega
theorem fold_take {f : Int → Int → Int} {x : List Int} {ll : List (List Int)} {i : Nat} {r : List Int} (h : ll[i]? = some r) : foldN f x (ll.take (i + 1)) = List.zipWith f (foldN f x (ll.take i)) r := by
  have hi := lt_of_at h
  rw [List.take_add_one, h]
  simp [foldN, List.foldl_append]
theorem least_eq {ll : List (List Int)} {x : List Int} (hx : ll[0]? = some x) (hl : ∀ r ∈ ll, r.length = x.length) (hn : x.length ≤ 1000) (hm : ll.length ≤ 1000000) : ref04_least ll = some (foldN min x ll) := by
  unfold ref04_least
  rw [ix0 hx, gd_pos (by simp; omega), List.nil_append]
  refine Eq.trans (for0 ll.length (fun i => foldN min x (ll.take i)) (fun n s i => ref04_least_L2 ll n i s) (some (foldN min x ll)) rfl (fun n i hi => ?_) (fun n => ?_) (by omega)) rfl
  · have hr : ll[i]? = some ll[i] := by simp [hi]
    have hrl := hl ll[i] (List.getElem_mem _)
    have hfl := fold_len (f := min) (ll.take i) x rfl (fun r hr => hl r (List.mem_of_mem_take hr))
    show ref04_least_B2 ll (ref04_least_L2 ll n) _ _ = _
    unfold ref04_least_B2
    rw [if_pos (by omega)]
    refine Eq.trans (for0 x.length (mixN min (foldN min x (ll.take i)) ll[i]) (fun m s j => ref04_least_L1 ll i (ref04_least_L2 ll n) m j s) (ref04_least_L2 ll n ((i + 1 : Nat) : Int) (foldN min x (ll.take (i + 1)))) (by simp [mixN]) (fun m j hj => ?_) (fun m => ?_) (by omega)) rfl
    · have hj' : j < (foldN min x (ll.take i)).length := by omega
      obtain ⟨m1, m2, m3⟩ := mix_step (f := min) (s := foldN min x (ll.take i)) (r := ll[i]) (by omega) hj'
      show ref04_least_B1 ll i (ref04_least_L2 ll n) (ref04_least_L1 ll i (ref04_least_L2 ll n) m) _ _ = _
      unfold ref04_least_B1
      rw [if_pos (by omega), ix_nat m1, ix_nat hr, ix_nat (gi_at (by omega)), ix_nat m1, gd_pos (by omega), ← m2]; rfl
    · show ref04_least_B1 ll i (ref04_least_L2 ll n) (ref04_least_L1 ll i (ref04_least_L2 ll n) m) _ _ = _
      unfold ref04_least_B1
      have e : mixN min (foldN min x (ll.take i)) ll[i] x.length = foldN min x (ll.take (i + 1)) := by
        rw [fold_take hr]; unfold mixN
        rw [List.take_of_length_le (by simp; omega), List.drop_of_length_le (by omega), List.append_nil]
      have hel := fold_len (f := min) (ll.take (i + 1)) x rfl (fun r hr => hl r (List.mem_of_mem_take hr))
      rw [e, if_neg (by omega)]
      unfold ref04_least_k2
      rw [gd_pos (by omega)]; rfl
  · show ref04_least_B2 ll (ref04_least_L2 ll n) _ _ = _
    unfold ref04_least_B2
    rw [if_neg (by omega), List.take_length]; rfl
theorem lens {b : Bog} {h k : List Int} (h0 : hollowE b h = 0) (k0 : hollowE b k = 0) : k.length = h.length ∧ h.length ≤ 6 := by
  have ⟨hb, ho, _⟩ := hollow0.1 h0
  have ⟨_, ko, _⟩ := hollow0.1 k0
  have := (okL_iff.1 ho).1; have := (okL_iff.1 ko).1; have := hb.n6
  omega
theorem zw_self {f : Int → Int → Int} (hf : ∀ x, f x x = x) : ∀ h : List Int, List.zipWith f h h = h
  | [] => rfl
  | x :: r => by simp [hf, zw_self hf r]
theorem rightB_iff {h : List Int} : rightB h = true ↔ ∀ j, j < h.length → 1 ≤ j → -1 ≤ gi h j - gi h (j - 1) ∧ gi h j - gi h (j - 1) ≤ 1 := by
  unfold rightB
  simp only [decide_eq_true_eq, within_iff]
theorem hollow_zip {b : Bog} {h k : List Int} {f : Int → Int → Int} (hf : (∀ x y, f x y = min x y) ∨ (∀ x y, f x y = max x y)) (h0 : hollowE b h = 0) (k0 : hollowE b k = 0) : hollowE b (List.zipWith f h k) = 0 := by
  have ⟨l1, l2⟩ := lens h0 k0
  have ⟨hb, ho, hr⟩ := hollow0.1 h0
  have ⟨_, ko, kr⟩ := hollow0.1 k0
  have hzl : (List.zipWith f h k).length = h.length := by simp; omega
  refine hollow0.2 ⟨hb, okL_iff.2 ⟨by rw [hzl]; exact (okL_iff.1 ho).1, fun x hx => ?_⟩, rightB_iff.2 fun j hj h1 => ?_⟩
  · obtain ⟨i, hi⟩ := List.getElem?_of_mem hx
    have hlt := lt_of_at hi
    rw [zw_at (gi_at (by omega)) (gi_at (by omega))] at hi
    have e := Option.some.inj hi
    have b1 := (okL_iff.1 ho).2 _ (gi_mem (h := h) (c := i) (by omega))
    have b2 := (okL_iff.1 ko).2 _ (gi_mem (h := k) (c := i) (by omega))
    rcases hf with hf | hf <;> rw [hf] at e <;> omega
  · rw [hzl] at hj
    have r1 := rightB_iff.1 hr j hj h1
    have r2 := rightB_iff.1 kr j (by omega) h1
    rw [zw_gi l1 hj, zw_gi l1 (by omega)]
    rcases hf with hf | hf <;> rw [hf, hf] <;> omega
theorem colW_mm (b : Bog) (c : Nat) (x y : Int) : colW b c (min x y) + colW b c (max x y) = colW b c x + colW b c y := by
  by_cases h : x ≤ y
  · rw [show min x y = x by omega, show max x y = y by omega]
  · rw [show min x y = y by omega, show max x y = x by omega]; omega
theorem wsum_mm {b : Bog} {h k : List Int} (hl : k.length = h.length) : ∀ i, i ≤ h.length → wsum b (List.zipWith min h k) i + wsum b (List.zipWith max h k) i = wsum b h i + wsum b k i
  | 0, _ => rfl
  | i + 1, hi => by
    have ih := wsum_mm (b := b) hl i (by omega)
    have := colW_mm b i (gi h i) (gi k i)
    simp only [wsum]
    rw [zw_gi hl (by omega), zw_gi hl (by omega)]
    omega
end Go.D4

set_option linter.unusedVariables false
set_option linter.unusedSimpArgs false
namespace Go.D4
open Go.Tb
structure Inv (b : Bog) (h at_ : List Int) (r : Nat) : Prop where
  ok : Ok b
  lh : okL b h = true
  rh : rightB h = true
  la : okL b at_ = true
  ra : rightB at_ = true
  le : ∀ c, c < h.length → gi at_ c ≤ gi h c
  r_ : isum h - isum at_ = (r : Int)
theorem Inv.len {b : Bog} {h at_ : List Int} {r : Nat} (i : Inv b h at_ r) : at_.length = h.length ∧ h.length ≤ 6 := by
  have := (okL_iff.1 i.lh).1; have := (okL_iff.1 i.la).1; have := i.ok.n6
  omega
theorem isum_bump : ∀ {l : List Int} {c : Nat}, c < l.length → isum (bump l c) = isum l + 1
  | x :: r, 0, _ => by simp [bump, isum, gi]; omega
  | x :: r, c + 1, h => by
    have := isum_bump (l := r) (c := c) (by simpa using h)
    simp only [bump, isum, List.set_cons_succ] at this ⊢
    have e : gi (x :: r) (c + 1) = gi r c := by simp [gi, List.getD]
    rw [e]; omega
theorem isum_le : ∀ {l m : List Int}, l.length = m.length → (∀ c, c < m.length → gi l c ≤ gi m c) → isum l ≤ isum m ∧ (isum l = isum m → l = m)
  | [], [], _, _ => by simp
  | x :: r, y :: s, hl, h => by
    have h0 := h 0 (by simp)
    have ih := isum_le (l := r) (m := s) (by simpa using hl) (fun c hc => by
      have := h (c + 1) (by simpa using hc)
      simpa [gi, List.getD] using this)
    simp only [gi, List.getD, List.getElem?_cons_zero, Option.getD_some] at h0
    simp only [isum]
    refine ⟨by omega, fun e => ?_⟩
    have e1 : x = y := by omega
    have e2 := ih.2 (by omega)
    rw [e1, e2]
theorem gi_bump {l : List Int} {c j : Nat} (hc : c < l.length) : gi (bump l c) j = if j = c then gi l c + 1 else gi l j := by
  unfold bump gi
  simp only [List.getD, List.getElem?_set]
  by_cases h : c = j
  · subst h; simp [hc]
  · rw [if_neg h, if_neg (fun e => h e.symm)]
theorem Inv.next {b : Bog} {h at_ : List Int} {r c : Nat} (i : Inv b h at_ (r + 1)) (hc : c < at_.length) (hlt : gi at_ c < gi h c) (hop : openB b at_ c = true) : Inv b h (bump at_ c) r := by
  have hh := hollow0.1 (bump_hollow i.ok i.la hc hop)
  refine ⟨i.ok, i.lh, i.rh, hh.2.1, hh.2.2, fun j hj => ?_, ?_⟩
  · rw [gi_bump hc]
    split
    · rename_i e; subst e; omega
    · exact i.le j hj
  · rw [isum_bump hc]; have := i.r_; omega
theorem Inv.zero {b : Bog} {h : List Int} (h0 : hollowE b h = 0) : Inv b h (List.replicate h.length 0) (isum h).toNat ∧ (isum h).toNat ≤ 24 := by
  have ⟨hb, ho, hr⟩ := hollow0.1 h0
  have ⟨hl, hx⟩ := okL_iff.1 ho
  have g0 : ∀ c, gi (List.replicate h.length 0) c = 0 := fun c => by
    unfold gi; simp only [List.getD, List.getElem?_replicate]; split <;> rfl
  have s0 : ∀ n, isum (List.replicate n 0) = 0 := fun n => by
    induction n with
    | zero => rfl
    | succ n ih => simp [List.replicate_succ, isum, ih]
  have nn : 0 ≤ isum h ∧ isum h ≤ 4 * (h.length : Int) := by
    have hd := hb.d4
    clear hl ho hr h0 g0
    induction h with
    | nil => simp [isum]
    | cons x r ih =>
      have := ih (fun y hy => hx y (List.mem_cons_of_mem _ hy))
      have := hx x (List.mem_cons_self ..)
      simp only [isum, List.length_cons]; omega
  have h6 := hb.n6
  refine ⟨⟨hb, ho, hr, by rw [hl]; exact okL_zero hb, rightB_iff.2 fun j hj h1 => by rw [g0, g0]; omega, fun c hc => ?_, ?_⟩, by omega⟩
  · rw [g0]; exact (hx _ (gi_mem hc)).1
  · rw [s0]; omega
theorem Inv.done {b : Bog} {h at_ : List Int} (i : Inv b h at_ 0) : at_ = h := by
  have ⟨hl, _⟩ := i.len
  exact (isum_le hl i.le).2 (by have := i.r_; omega)
end Go.D4
