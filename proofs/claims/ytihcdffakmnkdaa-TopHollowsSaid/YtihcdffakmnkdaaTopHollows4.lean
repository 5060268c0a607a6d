/- Lemmas and walks that the proof of this claim uses: D4x2, D4x3. -/
import Derived.Test.YtihcdffakmnkdaaTopHollows3
set_option linter.unusedVariables false
set_option linter.unusedSimpArgs false
namespace Go.D4
open Go.Tb Go.Proofs Go.RowKit
theorem Tf101_0 : tyF Try.prog 101 0 = some 0 := by kernel_rfl
theorem Tf101_1 : tyF Try.prog 101 1 = some 2 := by kernel_rfl
theorem Tk101 : tyK Try.prog 101 = some (true, 4) := by kernel_rfl
theorem Tz101 : tyZ Try.prog 101 = some (.agg #[.int .i64 0, .int .i64 0, .int .i64 0, .int .i64 0]) := by kernel_rfl
set_option maxRecDepth 20000 in
set_option maxHeartbeats 1000000 in
theorem cut_payer_pay_ok {a0 : Payer} {a1 : Block} {A_a0_bog_worth : Option Addr} {c_a0_bog_worth : Nat} {b_a0_has : Nat} {b_a0_passed : Nat} {wb : World} {R : List Ck} {w : World} {res : Bool × (List (Block × Int)) × (List (Link × Int))} (h_a0_bog_worth : Sl2 wb A_a0_bog_worth c_a0_bog_worth 1 encN a0.bog.worth) (H : Hp wb w ([.mp b_a0_has (encMap ekBlock ekI a0.has), .mp b_a0_passed (encMap ekLink ekI a0.passed)] ++ R)) (F : cut_payer_pay a0 a1 = some res) : Calls Try.prog 95 #[.agg #[.slice A_a0_bog_worth a0.bog.worth.length c_a0_bog_worth, .map (some b_a0_has), .map (some b_a0_passed)], .agg #[.int .i64 a1.column, .int .i64 a1.row]] w (fun e w' => e = .returned (.bool res.1) ∧ Hp wb w' ([.mp b_a0_has (encMap ekBlock ekI res.2.1), .mp b_a0_passed (encMap ekLink ekI res.2.2)] ++ R)) := by
  refine calls_of_cw (args := [.agg #[.slice A_a0_bog_worth a0.bog.worth.length c_a0_bog_worth, .map (some b_a0_has), .map (some b_a0_passed)], .agg #[.int .i64 a1.column, .int .i64 a1.row]]) Try.func95 rfl rfl rfl rfl ?_
  have R0 := H.ext
  unfold cut_payer_pay at F
  refine CW.seq fun K1 hK1 => ?_
  refine CW.region ?_
  refine LW.go rfl rfl (OW.box rfl fun b1 w1 N1 => ?_)
  replace H := H.new N1 N1.blk
  replace R0 := H.ext
  refine LW.go rfl rfl (OW.box rfl fun b2 w2 N2 => ?_)
  replace H := H.new N2 N2.blk
  replace R0 := H.ext
  refine LW.pure rfl rfl (RV.assign rfl) ?_
  refine LW.nil (hK1 _ _ ?_)
  refine CW.seq fun K2 hK2 => ?_
  obtain ⟨r1, hr1, F⟩ := bnd_some F
  refine CW.region ?_
  refine LW.pure rfl rfl (RV.loadA [.slice A_a0_bog_worth a0.bog.worth.length c_a0_bog_worth, .map (some b_a0_has), .map (some b_a0_passed)] Tk98 rfl (H.blk 1 rfl).cells rfl rfl) ?_
  refine LW.pure rfl rfl (RV.loadA [.int .i64 a1.column, .int .i64 a1.row] Tk92 rfl (H.blk 0 rfl).cells rfl rfl) ?_
  refine LW.go rfl rfl (OW.makeMap fun b3 w3 N3 M1 => ?_)
  replace H : Hp wb w3 ([.mp b3 (encMap ekBlock ekBl (([] : List (Block × Bool)))), .blk b2 92 [.int .i64 a1.column, .int .i64 a1.row], .blk b1 98 [.slice A_a0_bog_worth a0.bog.worth.length c_a0_bog_worth, .map (some b_a0_has), .map (some b_a0_passed)], .mp b_a0_has (encMap ekBlock ekI a0.has), .mp b_a0_passed (encMap ekLink ekI a0.passed)] ++ R) := H.newM N3 M1
  replace R0 := H.ext
  replace H := H.pickR (C := [.mp b3 (encMap ekBlock ekBl (([] : List (Block × Bool)))), .blk b2 92 [.int .i64 a1.column, .int .i64 a1.row], .blk b1 98 [.slice A_a0_bog_worth a0.bog.worth.length c_a0_bog_worth, .map (some b_a0_has), .map (some b_a0_passed)], .mp b_a0_has (encMap ekBlock ekI a0.has), .mp b_a0_passed (encMap ekLink ekI a0.passed)]) (C' := [.mp b_a0_has (encMap ekBlock ekI a0.has), .mp b_a0_passed (encMap ekLink ekI a0.passed), .mp b3 (encMap ekBlock ekBl (([] : List (Block × Bool)))), .blk b2 92 [.int .i64 a1.column, .int .i64 a1.row], .blk b1 98 [.slice A_a0_bog_worth a0.bog.worth.length c_a0_bog_worth, .map (some b_a0_has), .map (some b_a0_passed)]]) [3, 4, 0, 1, 2] (by decide) rfl
  replace R0 := H.ext
  refine LW.go rfl rfl (OW.call Tc100 rfl (cut_payer_way_ok (a0 := a0) (a1 := a1) (a2 := ([] : List (Block × Bool))) (R := [.blk b2 92 [.int .i64 a1.column, .int .i64 a1.row], .blk b1 98 [.slice A_a0_bog_worth a0.bog.worth.length c_a0_bog_worth, .map (some b_a0_has), .map (some b_a0_passed)]] ++ R) h_a0_bog_worth H hr1) ?_)
  rintro _ w4 ⟨A3_0, c3_0, rfl, Hq1⟩
  refine ⟨_, rfl, ?_⟩
  replace H : Hp wb w4 ([.mp b_a0_has (encMap ekBlock ekI r1.2.2.1), .mp b_a0_passed (encMap ekLink ekI r1.2.2.2.1), .mp b3 (encMap ekBlock ekBl r1.2.2.2.2), .own A3_0 c3_0 101 4 (List.map encLink r1.1), .blk b2 92 [.int .i64 a1.column, .int .i64 a1.row], .blk b1 98 [.slice A_a0_bog_worth a0.bog.worth.length c_a0_bog_worth, .map (some b_a0_has), .map (some b_a0_passed)]] ++ R) := Hq1
  replace R0 := H.ext
  refine LW.pure rfl rfl (RV.move rfl) ?_
  refine LW.pure rfl rfl (RV.extract rfl rfl) ?_
  refine LW.pure rfl rfl (RV.extract rfl rfl) ?_
  refine LW.pure rfl rfl (RV.assign rfl) ?_
  refine LW.pure rfl rfl (RV.assign rfl) ?_
  refine LW.nil (hK2 _ _ ?_)
  refine CW.seq fun K3 hK3 => ?_
  refine CW.seq fun K4 hK4 => ?_
  refine CW.region ?_
  refine LW.pure rfl rfl (RV.move rfl) ?_
  refine LW.pure rfl rfl (RV.not rfl) ?_
  refine LW.nil (hK4 _ _ ?_)
  by_cases hp1 : r1.2.1 = true
  ·
    replace F := ite_y hp1 F
    have hq1 : r1.2.1 = true := hp1
    refine CW.condF rfl (not_f hq1) ?_
    refine CW.skip (hK3 _ _ ?_)
    refine CW.seq fun K5 hK5 => ?_
    obtain ⟨hg1, F⟩ := gd_some F
    obtain ⟨x1, hbx1, hx1, F⟩ := ix_some F
    refine CW.region ?_
    refine LW.pure rfl rfl (RV.move rfl) ?_
    refine LW.pure rfl rfl (RV.move rfl) ?_
    refine LW.pure rfl rfl (RV.len Ts106 rfl) ?_
    refine LW.pure rfl rfl (RV.sub rfl rfl hg1) ?_
    refine LW.pure rfl rfl (RV.indexAddr Ts106 rfl rfl hbx1 ((H.own 3 rfl).sl.addr_ hx1)) ?_
    refine LW.pure rfl rfl (RV.fieldAddr Tf101_1 rfl) ?_
    refine LW.pure rfl rfl (RV.loadA [.int .i64 x1.to_.column, .int .i64 x1.to_.row] Tk92 rfl (((H.own 3 rfl).sl.at_ hx1).off 2) rfl rfl) ?_
    refine LW.go rfl rfl (OW.alloc Tz92 fun b4 w5 N4 => ?_)
    replace H := H.new N4 N4.blk
    replace R0 := H.ext
    refine LW.go rfl rfl (OW.store Tk92 rfl rfl (H.blk 0 rfl) (off := 0) (vs := [.int .i64 x1.to_.column, .int .i64 x1.to_.row]) rfl rfl rfl rfl rfl fun w6 S1 => ?_)
    replace H : Hp wb w6 ([.blk b4 92 [.int .i64 x1.to_.column, .int .i64 x1.to_.row], .mp b_a0_has (encMap ekBlock ekI r1.2.2.1), .mp b_a0_passed (encMap ekLink ekI r1.2.2.2.1), .mp b3 (encMap ekBlock ekBl r1.2.2.2.2), .own A3_0 c3_0 101 4 (List.map encLink r1.1), .blk b2 92 [.int .i64 a1.column, .int .i64 a1.row], .blk b1 98 [.slice A_a0_bog_worth a0.bog.worth.length c_a0_bog_worth, .map (some b_a0_has), .map (some b_a0_passed)]] ++ R) := H.stored 0 rfl S1
    replace R0 := H.ext
    refine LW.nil (hK5 _ _ ?_)
    refine CW.seq fun K6 hK6 => ?_
    obtain ⟨hg2, F⟩ := gd_some F
    refine CW.draw [] (fun _ => True) (.cons 0 1 (.cons 1 1 (.cons 2 1 (.cons 3 1 (.cons 4 1 (.cons 5 1 (.cons 6 1 (.cons 7 1 (.cons 8 1 (.cons 9 1 (.cons 10 1 .nil))))))))))) mixed (by kernel_rfl) fun w7 E1 => ?_
    replace H := H.grow E1
    replace R0 := H.ext
    refine DW.fix rfl rfl rfl (fun _ EQ => RV.fieldAddr Tf98_1 rfl) ?_
    refine DW.fix rfl rfl rfl (fun _ EQ => RV.load1 Tk90 rfl (((H.grow EQ).blk 6 rfl).cells.off 1) rfl) ?_
    refine DW.fix rfl rfl rfl (fun _ EQ => RV.loadA [.int .i64 a1.column, .int .i64 a1.row] Tk92 rfl ((H.grow EQ).blk 5 rfl).cells rfl rfl) ?_
    refine DW.fix rfl rfl rfl (fun _ EQ => RV.lookupM (ek := ekBlock) (ev' := ekI) (eq := eqBlock) (m := r1.2.2.1) ((⟨a1.column, a1.row⟩ : Block)) 0 KO92 Tm90 Tz3 rfl rfl ((H.grow EQ).mp 1 rfl)) ?_
    refine DW.fix rfl rfl rfl (fun _ EQ => RV.fieldAddr Tf98_1 rfl) ?_
    refine DW.fix rfl rfl rfl (fun _ EQ => RV.load1 Tk90 rfl (((H.grow EQ).blk 6 rfl).cells.off 1) rfl) ?_
    refine DW.fix rfl rfl rfl (fun _ EQ => RV.loadA [.int .i64 x1.to_.column, .int .i64 x1.to_.row] Tk92 rfl ((H.grow EQ).blk 0 rfl).cells rfl rfl) ?_
    refine DW.fix rfl rfl rfl (fun _ EQ => RV.lookupM (ek := ekBlock) (ev' := ekI) (eq := eqBlock) (m := r1.2.2.1) ((⟨x1.to_.column, x1.to_.row⟩ : Block)) 0 KO92 Tm90 Tz3 rfl rfl ((H.grow EQ).mp 1 rfl)) ?_
    refine DW.fix rfl rfl rfl (fun _ EQ => RV.neg rfl hg2) ?_
    refine DW.fix rfl rfl rfl (fun _ EQ => RV.min2 rfl rfl) ?_
    refine DW.fix rfl rfl rfl (fun _ EQ => RV.assign rfl) ?_
    refine DW.nil (hK6 _ _ ?_)
    refine CW.seqJ (fun ρ wl1 => (∃ (t8_1 : Int), cut_payer_pay_k5 a1 r1 x1 t8_1 = some res ∧ ρ = [(2, .pointer (some (⟨b1, 0, none⟩))), (3, .pointer (some (⟨b2, 0, none⟩))), (4, .bool false), (5, .slice A3_0 r1.1.length c3_0), (7, .pointer (some (⟨b4, 0, none⟩))), (8, .int .i64 t8_1)] ∧ Hp wb wl1 ([.own A3_0 c3_0 101 4 (List.map encLink r1.1), .mp b_a0_has (encMap ekBlock ekI r1.2.2.1), .mp b_a0_passed (encMap ekLink ekI r1.2.2.2.1), .blk b1 98 [.slice A_a0_bog_worth a0.bog.worth.length c_a0_bog_worth, .map (some b_a0_has), .map (some b_a0_passed)], .blk b2 92 [.int .i64 a1.column, .int .i64 a1.row], .blk b4 92 [.int .i64 x1.to_.column, .int .i64 x1.to_.row]] ++ R))) ?_ ?_
    ·
      rintro _ wl1 ⟨t8_1, F, rfl, H⟩
      have R0 := H.ext
      unfold cut_payer_pay_k5 at F
      refine CW.seqJ (fun ρ wl2 => (cut_payer_pay_k4 a1 r1 x1 t8_1 = some res ∧ ρ = [(2, .pointer (some (⟨b1, 0, none⟩))), (4, .bool false), (5, .slice A3_0 r1.1.length c3_0), (7, .pointer (some (⟨b4, 0, none⟩))), (8, .int .i64 t8_1)] ∧ Hp wb wl2 ([.own A3_0 c3_0 101 4 (List.map encLink r1.1), .mp b_a0_has (encMap ekBlock ekI ((mset eqBlock r1.2.2.1 ((⟨a1.column, a1.row⟩ : Block)) (((mget eqBlock r1.2.2.1 ((⟨a1.column, a1.row⟩ : Block))).getD 0) - t8_1)))), .mp b_a0_passed (encMap ekLink ekI r1.2.2.2.1), .blk b1 98 [.slice A_a0_bog_worth a0.bog.worth.length c_a0_bog_worth, .map (some b_a0_has), .map (some b_a0_passed)], .blk b4 92 [.int .i64 x1.to_.column, .int .i64 x1.to_.row]] ++ R))) ?_ ?_
      ·
        rintro _ wl2 ⟨F, rfl, H⟩
        have R0 := H.ext
        unfold cut_payer_pay_k4 at F
        refine CW.seqJ (fun ρ wl3 => (cut_payer_pay_k3 a1 r1 x1 t8_1 = some res ∧ ρ = [(2, .pointer (some (⟨b1, 0, none⟩))), (4, .bool false), (5, .slice A3_0 r1.1.length c3_0), (8, .int .i64 t8_1)] ∧ Hp wb wl3 ([.own A3_0 c3_0 101 4 (List.map encLink r1.1), .mp b_a0_has (encMap ekBlock ekI ((mset eqBlock ((mset eqBlock r1.2.2.1 ((⟨a1.column, a1.row⟩ : Block)) (((mget eqBlock r1.2.2.1 ((⟨a1.column, a1.row⟩ : Block))).getD 0) - t8_1))) ((⟨x1.to_.column, x1.to_.row⟩ : Block)) (((mget eqBlock ((mset eqBlock r1.2.2.1 ((⟨a1.column, a1.row⟩ : Block)) (((mget eqBlock r1.2.2.1 ((⟨a1.column, a1.row⟩ : Block))).getD 0) - t8_1))) ((⟨x1.to_.column, x1.to_.row⟩ : Block))).getD 0) + t8_1)))), .mp b_a0_passed (encMap ekLink ekI r1.2.2.2.1), .blk b1 98 [.slice A_a0_bog_worth a0.bog.worth.length c_a0_bog_worth, .map (some b_a0_has), .map (some b_a0_passed)]] ++ R))) ?_ ?_
        ·
          rintro _ wl3 ⟨F, rfl, H⟩
          have R0 := H.ext
          unfold cut_payer_pay_k3 at F
          refine CW.seqJ (fun ρ wl4 => (∃ (m1 : List (Link × Int)), cut_payer_pay_k1 a1 r1 x1 t8_1 m1 = some res ∧ ρ = [(4, .bool false)] ∧ Hp wb wl4 ([.mp b_a0_has (encMap ekBlock ekI ((mset eqBlock ((mset eqBlock r1.2.2.1 ((⟨a1.column, a1.row⟩ : Block)) (((mget eqBlock r1.2.2.1 ((⟨a1.column, a1.row⟩ : Block))).getD 0) - t8_1))) ((⟨x1.to_.column, x1.to_.row⟩ : Block)) (((mget eqBlock ((mset eqBlock r1.2.2.1 ((⟨a1.column, a1.row⟩ : Block)) (((mget eqBlock r1.2.2.1 ((⟨a1.column, a1.row⟩ : Block))).getD 0) - t8_1))) ((⟨x1.to_.column, x1.to_.row⟩ : Block))).getD 0) + t8_1)))), .mp b_a0_passed (encMap ekLink ekI m1)] ++ R))) ?_ ?_
          ·
            rintro _ wl4 ⟨m1, F, rfl, H⟩
            have R0 := H.ext
            unfold cut_payer_pay_k1 at F
            refine CW.seq fun K7 hK7 => ?_
            refine CW.region ?_
            refine LW.pure rfl rfl (RV.assign rfl) ?_
            refine LW.nil (hK7 _ _ ?_)
            refine CW.ret ?_
            obtain rfl := Option.some.inj F
            refine ⟨_, (ResOK.one rfl), ?_⟩
            exact ⟨(by first | rfl | (simp; done) | (simp; omega)), H⟩
          ·
            intro K8 hK8 jK152
            refine CW.seq fun K9 hK9 => ?_
            refine CW.region ?_
            refine LW.pure rfl rfl (RV.move rfl) ?_
            refine LW.pure rfl rfl (RV.len Ts106 rfl) ?_
            refine LW.pure rfl rfl (RV.move rfl) ?_
            refine LW.nil (hK9 _ _ ?_)
            refine CW.block ?_
            refine CW.loop (fun meas ρ wl5 => ∃ (t81_1 : Int) (m3 : List (Link × Int)), cut_payer_pay_L1 a1 r1 x1 t8_1 meas t81_1 m3 = some res ∧ ρ = [(2, .pointer (some (⟨b1, 0, none⟩))), (4, .bool false), (8, .int .i64 t8_1), (79, .slice A3_0 r1.1.length c3_0), (80, .int .i64 ((r1.1.length : Int))), (81, .int .i64 t81_1)] ∧ Hp wb wl5 ([.own A3_0 c3_0 101 4 (List.map encLink r1.1), .mp b_a0_has (encMap ekBlock ekI ((mset eqBlock ((mset eqBlock r1.2.2.1 ((⟨a1.column, a1.row⟩ : Block)) (((mget eqBlock r1.2.2.1 ((⟨a1.column, a1.row⟩ : Block))).getD 0) - t8_1))) ((⟨x1.to_.column, x1.to_.row⟩ : Block)) (((mget eqBlock ((mset eqBlock r1.2.2.1 ((⟨a1.column, a1.row⟩ : Block)) (((mget eqBlock r1.2.2.1 ((⟨a1.column, a1.row⟩ : Block))).getD 0) - t8_1))) ((⟨x1.to_.column, x1.to_.row⟩ : Block))).getD 0) + t8_1)))), .mp b_a0_passed (encMap ekLink ekI m3), .blk b1 98 [.slice A_a0_bog_worth a0.bog.worth.length c_a0_bog_worth, .map (some b_a0_has), .map (some b_a0_passed)]] ++ R)) FU ⟨_, ?_, ((0 : Int)), r1.2.2.2.1, F, rfl, H⟩ ?_
            · exact ⟨rfl, rfl, rfl, (look_slice rfl (by first | rfl | (simp; done) | omega | (simp; omega))), rfl, rfl, trivial⟩
            rintro mk1 _ wl5 ⟨t81_1, m3, F, rfl, H⟩
            have R0 := H.ext
            replace F := cut_payer_pay_L1_s F
            obtain ⟨mk1, rfl, F⟩ := F
            generalize hrec1 : cut_payer_pay_L1 a1 r1 x1 t8_1 mk1 = rec1 at F
            unfold cut_payer_pay_B1 at F
            refine CW.seq fun K10 hK10 => ?_
            refine CW.region ?_
            refine LW.pure rfl rfl (RV.lss rfl rfl) ?_
            refine LW.nil (hK10 _ _ ?_)
            refine CW.seq fun K11 hK11 => ?_
            by_cases hp2 : t81_1 < ((r1.1.length : Int))
            ·
              replace F := ite_y hp2 F
              have hq2 := dec_t hp2
              refine CW.condT rfl hq2 ?_
              refine CW.skip (hK11 _ _ ?_)
              refine CW.seqJ (fun ρ wl6 => (∃ (m2 : List (Link × Int)), cut_payer_pay_k2 t81_1 rec1 m2 = some res ∧ ρ = [(2, .pointer (some (⟨b1, 0, none⟩))), (4, .bool false), (8, .int .i64 t8_1), (79, .slice A3_0 r1.1.length c3_0), (80, .int .i64 ((r1.1.length : Int))), (81, .int .i64 t81_1)] ∧ Hp wb wl6 ([.own A3_0 c3_0 101 4 (List.map encLink r1.1), .mp b_a0_has (encMap ekBlock ekI ((mset eqBlock ((mset eqBlock r1.2.2.1 ((⟨a1.column, a1.row⟩ : Block)) (((mget eqBlock r1.2.2.1 ((⟨a1.column, a1.row⟩ : Block))).getD 0) - t8_1))) ((⟨x1.to_.column, x1.to_.row⟩ : Block)) (((mget eqBlock ((mset eqBlock r1.2.2.1 ((⟨a1.column, a1.row⟩ : Block)) (((mget eqBlock r1.2.2.1 ((⟨a1.column, a1.row⟩ : Block))).getD 0) - t8_1))) ((⟨x1.to_.column, x1.to_.row⟩ : Block))).getD 0) + t8_1)))), .mp b_a0_passed (encMap ekLink ekI m2), .blk b1 98 [.slice A_a0_bog_worth a0.bog.worth.length c_a0_bog_worth, .map (some b_a0_has), .map (some b_a0_passed)]] ++ R))) ?_ ?_
              ·
                rintro _ wl6 ⟨m2, F, rfl, H⟩
                have R0 := H.ext
                unfold cut_payer_pay_k2 at F
                obtain ⟨hg3, F⟩ := gd_some F
                refine CW.region ?_
                refine LW.pure rfl rfl (RV.add rfl rfl hg3) ?_
                refine LW.pure rfl rfl (RV.move rfl) ?_
                refine LW.nil ?_
                subst hrec1
                refine ⟨mk1, Nat.lt_succ_self _, _, ?_, (t81_1 + 1), m2, F, rfl, H⟩
                exact ⟨rfl, rfl, rfl, (look_slice rfl (by first | rfl | (simp; done) | omega | (simp; omega))), rfl, rfl, trivial⟩
              ·
                intro K12 hK12 jK172
                refine CW.block ?_
                refine CW.seq fun K13 hK13 => ?_
                obtain ⟨x2, hbx2, hx2, F⟩ := ix_some F
                refine CW.region ?_
                refine LW.pure rfl rfl (RV.indexAddr Ts106 rfl rfl hbx2 ((H.own 0 rfl).sl.addr_ hx2)) ?_
                refine LW.pure rfl rfl (RV.loadA [.int .i64 x2.from_.column, .int .i64 x2.from_.row, .int .i64 x2.to_.column, .int .i64 x2.to_.row] Tk101 rfl ((H.own 0 rfl).sl.at_ hx2) rfl rfl) ?_
                refine LW.go rfl rfl (OW.alloc Tz101 fun b5 w8 N5 => ?_)
                replace H := H.new N5 N5.blk
                replace R0 := H.ext
                refine LW.go rfl rfl (OW.store Tk101 rfl rfl (H.blk 0 rfl) (off := 0) (vs := [.int .i64 x2.from_.column, .int .i64 x2.from_.row, .int .i64 x2.to_.column, .int .i64 x2.to_.row]) rfl rfl rfl rfl rfl fun w9 S2 => ?_)
                replace H : Hp wb w9 ([.blk b5 101 [.int .i64 x2.from_.column, .int .i64 x2.from_.row, .int .i64 x2.to_.column, .int .i64 x2.to_.row], .own A3_0 c3_0 101 4 (List.map encLink r1.1), .mp b_a0_has (encMap ekBlock ekI ((mset eqBlock ((mset eqBlock r1.2.2.1 ((⟨a1.column, a1.row⟩ : Block)) (((mget eqBlock r1.2.2.1 ((⟨a1.column, a1.row⟩ : Block))).getD 0) - t8_1))) ((⟨x1.to_.column, x1.to_.row⟩ : Block)) (((mget eqBlock ((mset eqBlock r1.2.2.1 ((⟨a1.column, a1.row⟩ : Block)) (((mget eqBlock r1.2.2.1 ((⟨a1.column, a1.row⟩ : Block))).getD 0) - t8_1))) ((⟨x1.to_.column, x1.to_.row⟩ : Block))).getD 0) + t8_1)))), .mp b_a0_passed (encMap ekLink ekI m3), .blk b1 98 [.slice A_a0_bog_worth a0.bog.worth.length c_a0_bog_worth, .map (some b_a0_has), .map (some b_a0_passed)]] ++ R) := H.stored 0 rfl S2
                replace R0 := H.ext
                refine LW.nil (hK13 _ _ ?_)
                refine CW.seq fun K14 hK14 => ?_
                refine CW.region ?_
                refine LW.pure rfl rfl (RV.fieldAddr Tf101_1 rfl) ?_
                refine LW.pure rfl rfl (RV.fieldAddr Tf92_1 rfl) ?_
                refine LW.pure rfl rfl (RV.load1 Tk3 rfl (((H.blk 0 rfl).cells.off 2).off 1) rfl) ?_
                refine LW.pure rfl rfl (RV.fieldAddr Tf101_0 rfl) ?_
                refine LW.pure rfl rfl (RV.fieldAddr Tf92_1 rfl) ?_
                refine LW.pure rfl rfl (RV.load1 Tk3 rfl (((H.blk 0 rfl).cells.off 0).off 1) rfl) ?_
                refine LW.pure rfl rfl (RV.gtr rfl rfl) ?_
                refine LW.nil (hK14 _ _ ?_)
                by_cases hp3 : x2.from_.row < x2.to_.row
                ·
                  replace F := ite_y hp3 F
                  have hq3 := dec_t hp3
                  refine CW.condT rfl hq3 ?_
                  obtain ⟨hg4, F⟩ := gd_some F
                  refine CW.draw [10, 12] (fun _ => True) (.cons 0 1 (.cons 1 1 (.cons 2 1 (.cons 3 1 (.cons 4 1 (.cons 5 1 (.cons 6 1 (.cons 8 1 (.alt 7 (.cons 9 2 (.cons 10 0 (.cons 11 2 (.cons 12 0 .nil)))) (.cons 10 0 (.cons 11 2 (.cons 7 0 (.cons 9 2 (.cons 12 0 .nil)))))))))))))) mixed (by kernel_rfl) fun w10 E2 => ?_
                  replace H := H.grow E2
                  replace R0 := H.ext
                  refine DW.fix rfl rfl rfl (fun _ EQ => RV.fieldAddr Tf98_2 rfl) ?_
                  refine DW.fix rfl rfl rfl (fun _ EQ => RV.load1 Tk96 rfl (((H.grow EQ).blk 4 rfl).cells.off 2) rfl) ?_
                  refine DW.fix rfl rfl rfl (fun _ EQ => RV.fieldAddr Tf101_1 rfl) ?_
                  refine DW.fix rfl rfl rfl (fun _ EQ => RV.loadA [.int .i64 x2.to_.column, .int .i64 x2.to_.row] Tk92 rfl (((H.grow EQ).blk 0 rfl).cells.off 2) rfl rfl) ?_
                  refine DW.fix rfl rfl rfl (fun _ EQ => RV.fieldAddr Tf101_0 rfl) ?_
                  refine DW.fix rfl rfl rfl (fun _ EQ => RV.loadA [.int .i64 x2.from_.column, .int .i64 x2.from_.row] Tk92 rfl (((H.grow EQ).blk 0 rfl).cells.off 0) rfl rfl) ?_
                  refine DW.fix rfl rfl rfl (fun _ EQ => RV.build (vs := [.agg #[.int .i64 x2.to_.column, .int .i64 x2.to_.row], .agg #[.int .i64 x2.from_.column, .int .i64 x2.from_.row]]) (cs := [.int .i64 x2.to_.column, .int .i64 x2.to_.row, .int .i64 x2.from_.column, .int .i64 x2.from_.row]) rfl (fun _ => by kernel_rfl)) ?_
                  refine DW.fix rfl rfl rfl (fun _ EQ => RV.move rfl) ?_
                  refine DW.alt ?_ ?_
                  ·
                    refine DW.sole rfl rfl rfl (OW.value (RV.lookupM (ek := ekLink) (ev' := ekI) (eq := eqLink) (m := m3) ((⟨(⟨x2.to_.column, x2.to_.row⟩ : Block), (⟨x2.from_.column, x2.from_.row⟩ : Block)⟩ : Link)) 0 KO101 Tm96 Tz3 rfl rfl (H.mp 3 rfl)) ⟨fun _ => Ext.refl _, ModX.refl _ _, ?_⟩)
                    refine DW.thru rfl rfl rfl (fun _ EQ => RV.sub rfl rfl hg4) ?_
                    refine DW.sole rfl rfl rfl (OW.entryM (ek := ekLink) (ev' := ekI) (eq := eqLink) (m := m3) ((⟨(⟨x2.to_.column, x2.to_.row⟩ : Block), (⟨x2.from_.column, x2.from_.row⟩ : Block)⟩ : Link)) 0 KO101 Tm96 Tz3 rfl rfl (H.mp 3 rfl) fun w11 bo1 M2 En1 => ?_)
                    refine ⟨fun h => absurd h (by decide), M2.modx (fun _ _ => trivial), ?_⟩
                    replace H : Hp wb w11 ([.blk b5 101 [.int .i64 x2.from_.column, .int .i64 x2.from_.row, .int .i64 x2.to_.column, .int .i64 x2.to_.row], .own A3_0 c3_0 101 4 (List.map encLink r1.1), .mp b_a0_has (encMap ekBlock ekI ((mset eqBlock ((mset eqBlock r1.2.2.1 ((⟨a1.column, a1.row⟩ : Block)) (((mget eqBlock r1.2.2.1 ((⟨a1.column, a1.row⟩ : Block))).getD 0) - t8_1))) ((⟨x1.to_.column, x1.to_.row⟩ : Block)) (((mget eqBlock ((mset eqBlock r1.2.2.1 ((⟨a1.column, a1.row⟩ : Block)) (((mget eqBlock r1.2.2.1 ((⟨a1.column, a1.row⟩ : Block))).getD 0) - t8_1))) ((⟨x1.to_.column, x1.to_.row⟩ : Block))).getD 0) + t8_1)))), eck b_a0_passed (encMap ekLink ekI (ment eqLink m3 ((⟨(⟨x2.to_.column, x2.to_.row⟩ : Block), (⟨x2.from_.column, x2.from_.row⟩ : Block)⟩ : Link)) 0)) (ekLink ((⟨(⟨x2.to_.column, x2.to_.row⟩ : Block), (⟨x2.from_.column, x2.from_.row⟩ : Block)⟩ : Link))) bo1, .blk b1 98 [.slice A_a0_bog_worth a0.bog.worth.length c_a0_bog_worth, .map (some b_a0_has), .map (some b_a0_passed)]] ++ R) := H.setE 3 rfl M2 En1
                    replace R0 := H.ext
                    refine DW.thru rfl rfl rfl (fun _ EQ => RV.extract rfl rfl) ?_
                    refine DW.sole rfl rfl rfl (OW.storeEnt (ek := ekLink) (ev' := ekI) (eq := eqLink) (m := m3) ((⟨(⟨x2.to_.column, x2.to_.row⟩ : Block), (⟨x2.from_.column, x2.from_.row⟩ : Block)⟩ : Link)) 0 (((mget eqLink m3 ((⟨(⟨x2.to_.column, x2.to_.row⟩ : Block), (⟨x2.from_.column, x2.from_.row⟩ : Block)⟩ : Link))).getD 0) - t8_1) KO101 rfl rfl rfl (H.ent 3 rfl) fun w12 M3 O1 => ?_)
                    refine ⟨fun h => absurd h (by decide), M3.modx (fun _ _ => trivial), ?_⟩
                    replace H : Hp wb w12 ([.blk b5 101 [.int .i64 x2.from_.column, .int .i64 x2.from_.row, .int .i64 x2.to_.column, .int .i64 x2.to_.row], .own A3_0 c3_0 101 4 (List.map encLink r1.1), .mp b_a0_has (encMap ekBlock ekI ((mset eqBlock ((mset eqBlock r1.2.2.1 ((⟨a1.column, a1.row⟩ : Block)) (((mget eqBlock r1.2.2.1 ((⟨a1.column, a1.row⟩ : Block))).getD 0) - t8_1))) ((⟨x1.to_.column, x1.to_.row⟩ : Block)) (((mget eqBlock ((mset eqBlock r1.2.2.1 ((⟨a1.column, a1.row⟩ : Block)) (((mget eqBlock r1.2.2.1 ((⟨a1.column, a1.row⟩ : Block))).getD 0) - t8_1))) ((⟨x1.to_.column, x1.to_.row⟩ : Block))).getD 0) + t8_1)))), .mp b_a0_passed (encMap ekLink ekI ((mset eqLink m3 ((⟨(⟨x2.to_.column, x2.to_.row⟩ : Block), (⟨x2.from_.column, x2.from_.row⟩ : Block)⟩ : Link)) (((mget eqLink m3 ((⟨(⟨x2.to_.column, x2.to_.row⟩ : Block), (⟨x2.from_.column, x2.from_.row⟩ : Block)⟩ : Link))).getD 0) - t8_1)))), .blk b1 98 [.slice A_a0_bog_worth a0.bog.worth.length c_a0_bog_worth, .map (some b_a0_has), .map (some b_a0_passed)]] ++ R) := H.setS 3 rfl M3 O1
                    replace R0 := H.ext
                    replace H := H.pickR (C := [.blk b5 101 [.int .i64 x2.from_.column, .int .i64 x2.from_.row, .int .i64 x2.to_.column, .int .i64 x2.to_.row], .own A3_0 c3_0 101 4 (List.map encLink r1.1), .mp b_a0_has (encMap ekBlock ekI ((mset eqBlock ((mset eqBlock r1.2.2.1 ((⟨a1.column, a1.row⟩ : Block)) (((mget eqBlock r1.2.2.1 ((⟨a1.column, a1.row⟩ : Block))).getD 0) - t8_1))) ((⟨x1.to_.column, x1.to_.row⟩ : Block)) (((mget eqBlock ((mset eqBlock r1.2.2.1 ((⟨a1.column, a1.row⟩ : Block)) (((mget eqBlock r1.2.2.1 ((⟨a1.column, a1.row⟩ : Block))).getD 0) - t8_1))) ((⟨x1.to_.column, x1.to_.row⟩ : Block))).getD 0) + t8_1)))), .mp b_a0_passed (encMap ekLink ekI ((mset eqLink m3 ((⟨(⟨x2.to_.column, x2.to_.row⟩ : Block), (⟨x2.from_.column, x2.from_.row⟩ : Block)⟩ : Link)) (((mget eqLink m3 ((⟨(⟨x2.to_.column, x2.to_.row⟩ : Block), (⟨x2.from_.column, x2.from_.row⟩ : Block)⟩ : Link))).getD 0) - t8_1)))), .blk b1 98 [.slice A_a0_bog_worth a0.bog.worth.length c_a0_bog_worth, .map (some b_a0_has), .map (some b_a0_passed)]]) (C' := [.own A3_0 c3_0 101 4 (List.map encLink r1.1), .mp b_a0_has (encMap ekBlock ekI ((mset eqBlock ((mset eqBlock r1.2.2.1 ((⟨a1.column, a1.row⟩ : Block)) (((mget eqBlock r1.2.2.1 ((⟨a1.column, a1.row⟩ : Block))).getD 0) - t8_1))) ((⟨x1.to_.column, x1.to_.row⟩ : Block)) (((mget eqBlock ((mset eqBlock r1.2.2.1 ((⟨a1.column, a1.row⟩ : Block)) (((mget eqBlock r1.2.2.1 ((⟨a1.column, a1.row⟩ : Block))).getD 0) - t8_1))) ((⟨x1.to_.column, x1.to_.row⟩ : Block))).getD 0) + t8_1)))), .mp b_a0_passed (encMap ekLink ekI ((mset eqLink m3 ((⟨(⟨x2.to_.column, x2.to_.row⟩ : Block), (⟨x2.from_.column, x2.from_.row⟩ : Block)⟩ : Link)) (((mget eqLink m3 ((⟨(⟨x2.to_.column, x2.to_.row⟩ : Block), (⟨x2.from_.column, x2.from_.row⟩ : Block)⟩ : Link))).getD 0) - t8_1)))), .blk b1 98 [.slice A_a0_bog_worth a0.bog.worth.length c_a0_bog_worth, .map (some b_a0_has), .map (some b_a0_passed)]]) [1, 2, 3, 4] (by decide) rfl
                    replace R0 := H.ext
                    refine DW.nil (jK172 _ _ ⟨_, ?_, ⟨((mset eqLink m3 ((⟨(⟨x2.to_.column, x2.to_.row⟩ : Block), (⟨x2.from_.column, x2.from_.row⟩ : Block)⟩ : Link)) (((mget eqLink m3 ((⟨(⟨x2.to_.column, x2.to_.row⟩ : Block), (⟨x2.from_.column, x2.from_.row⟩ : Block)⟩ : Link))).getD 0) - t8_1))), F, rfl, H⟩⟩)
                    exact ⟨rfl, rfl, rfl, (look_slice rfl (by first | rfl | (simp; done) | omega | (simp; omega))), rfl, rfl, trivial⟩
                  ·
                    refine DW.sole rfl rfl rfl (OW.entryM (ek := ekLink) (ev' := ekI) (eq := eqLink) (m := m3) ((⟨(⟨x2.to_.column, x2.to_.row⟩ : Block), (⟨x2.from_.column, x2.from_.row⟩ : Block)⟩ : Link)) 0 KO101 Tm96 Tz3 rfl rfl (H.mp 3 rfl) fun w13 bo2 M4 En2 => ?_)
                    refine ⟨fun h => absurd h (by decide), M4.modx (fun _ _ => trivial), ?_⟩
                    replace H : Hp wb w13 ([.blk b5 101 [.int .i64 x2.from_.column, .int .i64 x2.from_.row, .int .i64 x2.to_.column, .int .i64 x2.to_.row], .own A3_0 c3_0 101 4 (List.map encLink r1.1), .mp b_a0_has (encMap ekBlock ekI ((mset eqBlock ((mset eqBlock r1.2.2.1 ((⟨a1.column, a1.row⟩ : Block)) (((mget eqBlock r1.2.2.1 ((⟨a1.column, a1.row⟩ : Block))).getD 0) - t8_1))) ((⟨x1.to_.column, x1.to_.row⟩ : Block)) (((mget eqBlock ((mset eqBlock r1.2.2.1 ((⟨a1.column, a1.row⟩ : Block)) (((mget eqBlock r1.2.2.1 ((⟨a1.column, a1.row⟩ : Block))).getD 0) - t8_1))) ((⟨x1.to_.column, x1.to_.row⟩ : Block))).getD 0) + t8_1)))), eck b_a0_passed (encMap ekLink ekI (ment eqLink m3 ((⟨(⟨x2.to_.column, x2.to_.row⟩ : Block), (⟨x2.from_.column, x2.from_.row⟩ : Block)⟩ : Link)) 0)) (ekLink ((⟨(⟨x2.to_.column, x2.to_.row⟩ : Block), (⟨x2.from_.column, x2.from_.row⟩ : Block)⟩ : Link))) bo2, .blk b1 98 [.slice A_a0_bog_worth a0.bog.worth.length c_a0_bog_worth, .map (some b_a0_has), .map (some b_a0_passed)]] ++ R) := H.setE 3 rfl M4 En2
                    replace R0 := H.ext
                    refine DW.thru rfl rfl rfl (fun _ EQ => RV.extract rfl rfl) ?_
                    refine DW.sole rfl rfl rfl (OW.value (RV.lookupE (ek := ekLink) (ev' := ekI) (eq := eqLink) (m := m3) ((⟨(⟨x2.to_.column, x2.to_.row⟩ : Block), (⟨x2.from_.column, x2.from_.row⟩ : Block)⟩ : Link)) 0 KO101 Tm96 Tz3 rfl rfl (H.ent 3 rfl)) ⟨fun _ => Ext.refl _, ModX.refl _ _, ?_⟩)
                    refine DW.thru rfl rfl rfl (fun _ EQ => RV.sub rfl rfl hg4) ?_
                    refine DW.sole rfl rfl rfl (OW.storeEnt (ek := ekLink) (ev' := ekI) (eq := eqLink) (m := m3) ((⟨(⟨x2.to_.column, x2.to_.row⟩ : Block), (⟨x2.from_.column, x2.from_.row⟩ : Block)⟩ : Link)) 0 (((mget eqLink m3 ((⟨(⟨x2.to_.column, x2.to_.row⟩ : Block), (⟨x2.from_.column, x2.from_.row⟩ : Block)⟩ : Link))).getD 0) - t8_1) KO101 rfl rfl rfl (H.ent 3 rfl) fun w14 M5 O2 => ?_)
                    refine ⟨fun h => absurd h (by decide), M5.modx (fun _ _ => trivial), ?_⟩
                    replace H : Hp wb w14 ([.blk b5 101 [.int .i64 x2.from_.column, .int .i64 x2.from_.row, .int .i64 x2.to_.column, .int .i64 x2.to_.row], .own A3_0 c3_0 101 4 (List.map encLink r1.1), .mp b_a0_has (encMap ekBlock ekI ((mset eqBlock ((mset eqBlock r1.2.2.1 ((⟨a1.column, a1.row⟩ : Block)) (((mget eqBlock r1.2.2.1 ((⟨a1.column, a1.row⟩ : Block))).getD 0) - t8_1))) ((⟨x1.to_.column, x1.to_.row⟩ : Block)) (((mget eqBlock ((mset eqBlock r1.2.2.1 ((⟨a1.column, a1.row⟩ : Block)) (((mget eqBlock r1.2.2.1 ((⟨a1.column, a1.row⟩ : Block))).getD 0) - t8_1))) ((⟨x1.to_.column, x1.to_.row⟩ : Block))).getD 0) + t8_1)))), .mp b_a0_passed (encMap ekLink ekI ((mset eqLink m3 ((⟨(⟨x2.to_.column, x2.to_.row⟩ : Block), (⟨x2.from_.column, x2.from_.row⟩ : Block)⟩ : Link)) (((mget eqLink m3 ((⟨(⟨x2.to_.column, x2.to_.row⟩ : Block), (⟨x2.from_.column, x2.from_.row⟩ : Block)⟩ : Link))).getD 0) - t8_1)))), .blk b1 98 [.slice A_a0_bog_worth a0.bog.worth.length c_a0_bog_worth, .map (some b_a0_has), .map (some b_a0_passed)]] ++ R) := H.setS 3 rfl M5 O2
                    replace R0 := H.ext
                    replace H := H.pickR (C := [.blk b5 101 [.int .i64 x2.from_.column, .int .i64 x2.from_.row, .int .i64 x2.to_.column, .int .i64 x2.to_.row], .own A3_0 c3_0 101 4 (List.map encLink r1.1), .mp b_a0_has (encMap ekBlock ekI ((mset eqBlock ((mset eqBlock r1.2.2.1 ((⟨a1.column, a1.row⟩ : Block)) (((mget eqBlock r1.2.2.1 ((⟨a1.column, a1.row⟩ : Block))).getD 0) - t8_1))) ((⟨x1.to_.column, x1.to_.row⟩ : Block)) (((mget eqBlock ((mset eqBlock r1.2.2.1 ((⟨a1.column, a1.row⟩ : Block)) (((mget eqBlock r1.2.2.1 ((⟨a1.column, a1.row⟩ : Block))).getD 0) - t8_1))) ((⟨x1.to_.column, x1.to_.row⟩ : Block))).getD 0) + t8_1)))), .mp b_a0_passed (encMap ekLink ekI ((mset eqLink m3 ((⟨(⟨x2.to_.column, x2.to_.row⟩ : Block), (⟨x2.from_.column, x2.from_.row⟩ : Block)⟩ : Link)) (((mget eqLink m3 ((⟨(⟨x2.to_.column, x2.to_.row⟩ : Block), (⟨x2.from_.column, x2.from_.row⟩ : Block)⟩ : Link))).getD 0) - t8_1)))), .blk b1 98 [.slice A_a0_bog_worth a0.bog.worth.length c_a0_bog_worth, .map (some b_a0_has), .map (some b_a0_passed)]]) (C' := [.own A3_0 c3_0 101 4 (List.map encLink r1.1), .mp b_a0_has (encMap ekBlock ekI ((mset eqBlock ((mset eqBlock r1.2.2.1 ((⟨a1.column, a1.row⟩ : Block)) (((mget eqBlock r1.2.2.1 ((⟨a1.column, a1.row⟩ : Block))).getD 0) - t8_1))) ((⟨x1.to_.column, x1.to_.row⟩ : Block)) (((mget eqBlock ((mset eqBlock r1.2.2.1 ((⟨a1.column, a1.row⟩ : Block)) (((mget eqBlock r1.2.2.1 ((⟨a1.column, a1.row⟩ : Block))).getD 0) - t8_1))) ((⟨x1.to_.column, x1.to_.row⟩ : Block))).getD 0) + t8_1)))), .mp b_a0_passed (encMap ekLink ekI ((mset eqLink m3 ((⟨(⟨x2.to_.column, x2.to_.row⟩ : Block), (⟨x2.from_.column, x2.from_.row⟩ : Block)⟩ : Link)) (((mget eqLink m3 ((⟨(⟨x2.to_.column, x2.to_.row⟩ : Block), (⟨x2.from_.column, x2.from_.row⟩ : Block)⟩ : Link))).getD 0) - t8_1)))), .blk b1 98 [.slice A_a0_bog_worth a0.bog.worth.length c_a0_bog_worth, .map (some b_a0_has), .map (some b_a0_passed)]]) [1, 2, 3, 4] (by decide) rfl
                    replace R0 := H.ext
                    refine DW.nil (jK172 _ _ ⟨_, ?_, ⟨((mset eqLink m3 ((⟨(⟨x2.to_.column, x2.to_.row⟩ : Block), (⟨x2.from_.column, x2.from_.row⟩ : Block)⟩ : Link)) (((mget eqLink m3 ((⟨(⟨x2.to_.column, x2.to_.row⟩ : Block), (⟨x2.from_.column, x2.from_.row⟩ : Block)⟩ : Link))).getD 0) - t8_1))), F, rfl, H⟩⟩)
                    exact ⟨rfl, rfl, rfl, (look_slice rfl (by first | rfl | (simp; done) | omega | (simp; omega))), rfl, rfl, trivial⟩
                ·
                  replace F := ite_n hp3 F
                  have hq3 := dec_f hp3
                  refine CW.condF rfl hq3 ?_
                  obtain ⟨hg5, F⟩ := gd_some F
                  refine CW.draw [6, 8] (fun _ => True) (.cons 0 1 (.cons 1 1 (.cons 2 1 (.cons 4 1 (.alt 3 (.cons 5 2 (.cons 6 0 (.cons 7 2 (.cons 8 0 .nil)))) (.cons 6 0 (.cons 7 2 (.cons 3 0 (.cons 5 2 (.cons 8 0 .nil)))))))))) mixed (by kernel_rfl) fun w15 E3 => ?_
                  replace H := H.grow E3
                  replace R0 := H.ext
                  refine DW.fix rfl rfl rfl (fun _ EQ => RV.fieldAddr Tf98_2 rfl) ?_
                  refine DW.fix rfl rfl rfl (fun _ EQ => RV.load1 Tk96 rfl (((H.grow EQ).blk 4 rfl).cells.off 2) rfl) ?_
                  refine DW.fix rfl rfl rfl (fun _ EQ => RV.loadA [.int .i64 x2.from_.column, .int .i64 x2.from_.row, .int .i64 x2.to_.column, .int .i64 x2.to_.row] Tk101 rfl ((H.grow EQ).blk 0 rfl).cells rfl rfl) ?_
                  refine DW.fix rfl rfl rfl (fun _ EQ => RV.move rfl) ?_
                  refine DW.alt ?_ ?_
                  ·
                    refine DW.sole rfl rfl rfl (OW.value (RV.lookupM (ek := ekLink) (ev' := ekI) (eq := eqLink) (m := m3) ((⟨(⟨x2.from_.column, x2.from_.row⟩ : Block), (⟨x2.to_.column, x2.to_.row⟩ : Block)⟩ : Link)) 0 KO101 Tm96 Tz3 rfl rfl (H.mp 3 rfl)) ⟨fun _ => Ext.refl _, ModX.refl _ _, ?_⟩)
                    refine DW.thru rfl rfl rfl (fun _ EQ => RV.add rfl rfl hg5) ?_
                    refine DW.sole rfl rfl rfl (OW.entryM (ek := ekLink) (ev' := ekI) (eq := eqLink) (m := m3) ((⟨(⟨x2.from_.column, x2.from_.row⟩ : Block), (⟨x2.to_.column, x2.to_.row⟩ : Block)⟩ : Link)) 0 KO101 Tm96 Tz3 rfl rfl (H.mp 3 rfl) fun w16 bo3 M6 En3 => ?_)
                    refine ⟨fun h => absurd h (by decide), M6.modx (fun _ _ => trivial), ?_⟩
                    replace H : Hp wb w16 ([.blk b5 101 [.int .i64 x2.from_.column, .int .i64 x2.from_.row, .int .i64 x2.to_.column, .int .i64 x2.to_.row], .own A3_0 c3_0 101 4 (List.map encLink r1.1), .mp b_a0_has (encMap ekBlock ekI ((mset eqBlock ((mset eqBlock r1.2.2.1 ((⟨a1.column, a1.row⟩ : Block)) (((mget eqBlock r1.2.2.1 ((⟨a1.column, a1.row⟩ : Block))).getD 0) - t8_1))) ((⟨x1.to_.column, x1.to_.row⟩ : Block)) (((mget eqBlock ((mset eqBlock r1.2.2.1 ((⟨a1.column, a1.row⟩ : Block)) (((mget eqBlock r1.2.2.1 ((⟨a1.column, a1.row⟩ : Block))).getD 0) - t8_1))) ((⟨x1.to_.column, x1.to_.row⟩ : Block))).getD 0) + t8_1)))), eck b_a0_passed (encMap ekLink ekI (ment eqLink m3 ((⟨(⟨x2.from_.column, x2.from_.row⟩ : Block), (⟨x2.to_.column, x2.to_.row⟩ : Block)⟩ : Link)) 0)) (ekLink ((⟨(⟨x2.from_.column, x2.from_.row⟩ : Block), (⟨x2.to_.column, x2.to_.row⟩ : Block)⟩ : Link))) bo3, .blk b1 98 [.slice A_a0_bog_worth a0.bog.worth.length c_a0_bog_worth, .map (some b_a0_has), .map (some b_a0_passed)]] ++ R) := H.setE 3 rfl M6 En3
                    replace R0 := H.ext
                    refine DW.thru rfl rfl rfl (fun _ EQ => RV.extract rfl rfl) ?_
                    refine DW.sole rfl rfl rfl (OW.storeEnt (ek := ekLink) (ev' := ekI) (eq := eqLink) (m := m3) ((⟨(⟨x2.from_.column, x2.from_.row⟩ : Block), (⟨x2.to_.column, x2.to_.row⟩ : Block)⟩ : Link)) 0 (((mget eqLink m3 ((⟨(⟨x2.from_.column, x2.from_.row⟩ : Block), (⟨x2.to_.column, x2.to_.row⟩ : Block)⟩ : Link))).getD 0) + t8_1) KO101 rfl rfl rfl (H.ent 3 rfl) fun w17 M7 O3 => ?_)
                    refine ⟨fun h => absurd h (by decide), M7.modx (fun _ _ => trivial), ?_⟩
                    replace H : Hp wb w17 ([.blk b5 101 [.int .i64 x2.from_.column, .int .i64 x2.from_.row, .int .i64 x2.to_.column, .int .i64 x2.to_.row], .own A3_0 c3_0 101 4 (List.map encLink r1.1), .mp b_a0_has (encMap ekBlock ekI ((mset eqBlock ((mset eqBlock r1.2.2.1 ((⟨a1.column, a1.row⟩ : Block)) (((mget eqBlock r1.2.2.1 ((⟨a1.column, a1.row⟩ : Block))).getD 0) - t8_1))) ((⟨x1.to_.column, x1.to_.row⟩ : Block)) (((mget eqBlock ((mset eqBlock r1.2.2.1 ((⟨a1.column, a1.row⟩ : Block)) (((mget eqBlock r1.2.2.1 ((⟨a1.column, a1.row⟩ : Block))).getD 0) - t8_1))) ((⟨x1.to_.column, x1.to_.row⟩ : Block))).getD 0) + t8_1)))), .mp b_a0_passed (encMap ekLink ekI ((mset eqLink m3 ((⟨(⟨x2.from_.column, x2.from_.row⟩ : Block), (⟨x2.to_.column, x2.to_.row⟩ : Block)⟩ : Link)) (((mget eqLink m3 ((⟨(⟨x2.from_.column, x2.from_.row⟩ : Block), (⟨x2.to_.column, x2.to_.row⟩ : Block)⟩ : Link))).getD 0) + t8_1)))), .blk b1 98 [.slice A_a0_bog_worth a0.bog.worth.length c_a0_bog_worth, .map (some b_a0_has), .map (some b_a0_passed)]] ++ R) := H.setS 3 rfl M7 O3
                    replace R0 := H.ext
                    replace H := H.pickR (C := [.blk b5 101 [.int .i64 x2.from_.column, .int .i64 x2.from_.row, .int .i64 x2.to_.column, .int .i64 x2.to_.row], .own A3_0 c3_0 101 4 (List.map encLink r1.1), .mp b_a0_has (encMap ekBlock ekI ((mset eqBlock ((mset eqBlock r1.2.2.1 ((⟨a1.column, a1.row⟩ : Block)) (((mget eqBlock r1.2.2.1 ((⟨a1.column, a1.row⟩ : Block))).getD 0) - t8_1))) ((⟨x1.to_.column, x1.to_.row⟩ : Block)) (((mget eqBlock ((mset eqBlock r1.2.2.1 ((⟨a1.column, a1.row⟩ : Block)) (((mget eqBlock r1.2.2.1 ((⟨a1.column, a1.row⟩ : Block))).getD 0) - t8_1))) ((⟨x1.to_.column, x1.to_.row⟩ : Block))).getD 0) + t8_1)))), .mp b_a0_passed (encMap ekLink ekI ((mset eqLink m3 ((⟨(⟨x2.from_.column, x2.from_.row⟩ : Block), (⟨x2.to_.column, x2.to_.row⟩ : Block)⟩ : Link)) (((mget eqLink m3 ((⟨(⟨x2.from_.column, x2.from_.row⟩ : Block), (⟨x2.to_.column, x2.to_.row⟩ : Block)⟩ : Link))).getD 0) + t8_1)))), .blk b1 98 [.slice A_a0_bog_worth a0.bog.worth.length c_a0_bog_worth, .map (some b_a0_has), .map (some b_a0_passed)]]) (C' := [.own A3_0 c3_0 101 4 (List.map encLink r1.1), .mp b_a0_has (encMap ekBlock ekI ((mset eqBlock ((mset eqBlock r1.2.2.1 ((⟨a1.column, a1.row⟩ : Block)) (((mget eqBlock r1.2.2.1 ((⟨a1.column, a1.row⟩ : Block))).getD 0) - t8_1))) ((⟨x1.to_.column, x1.to_.row⟩ : Block)) (((mget eqBlock ((mset eqBlock r1.2.2.1 ((⟨a1.column, a1.row⟩ : Block)) (((mget eqBlock r1.2.2.1 ((⟨a1.column, a1.row⟩ : Block))).getD 0) - t8_1))) ((⟨x1.to_.column, x1.to_.row⟩ : Block))).getD 0) + t8_1)))), .mp b_a0_passed (encMap ekLink ekI ((mset eqLink m3 ((⟨(⟨x2.from_.column, x2.from_.row⟩ : Block), (⟨x2.to_.column, x2.to_.row⟩ : Block)⟩ : Link)) (((mget eqLink m3 ((⟨(⟨x2.from_.column, x2.from_.row⟩ : Block), (⟨x2.to_.column, x2.to_.row⟩ : Block)⟩ : Link))).getD 0) + t8_1)))), .blk b1 98 [.slice A_a0_bog_worth a0.bog.worth.length c_a0_bog_worth, .map (some b_a0_has), .map (some b_a0_passed)]]) [1, 2, 3, 4] (by decide) rfl
                    replace R0 := H.ext
                    refine DW.nil (jK172 _ _ ⟨_, ?_, ⟨((mset eqLink m3 ((⟨(⟨x2.from_.column, x2.from_.row⟩ : Block), (⟨x2.to_.column, x2.to_.row⟩ : Block)⟩ : Link)) (((mget eqLink m3 ((⟨(⟨x2.from_.column, x2.from_.row⟩ : Block), (⟨x2.to_.column, x2.to_.row⟩ : Block)⟩ : Link))).getD 0) + t8_1))), F, rfl, H⟩⟩)
                    exact ⟨rfl, rfl, rfl, (look_slice rfl (by first | rfl | (simp; done) | omega | (simp; omega))), rfl, rfl, trivial⟩
                  ·
                    refine DW.sole rfl rfl rfl (OW.entryM (ek := ekLink) (ev' := ekI) (eq := eqLink) (m := m3) ((⟨(⟨x2.from_.column, x2.from_.row⟩ : Block), (⟨x2.to_.column, x2.to_.row⟩ : Block)⟩ : Link)) 0 KO101 Tm96 Tz3 rfl rfl (H.mp 3 rfl) fun w18 bo4 M8 En4 => ?_)
                    refine ⟨fun h => absurd h (by decide), M8.modx (fun _ _ => trivial), ?_⟩
                    replace H : Hp wb w18 ([.blk b5 101 [.int .i64 x2.from_.column, .int .i64 x2.from_.row, .int .i64 x2.to_.column, .int .i64 x2.to_.row], .own A3_0 c3_0 101 4 (List.map encLink r1.1), .mp b_a0_has (encMap ekBlock ekI ((mset eqBlock ((mset eqBlock r1.2.2.1 ((⟨a1.column, a1.row⟩ : Block)) (((mget eqBlock r1.2.2.1 ((⟨a1.column, a1.row⟩ : Block))).getD 0) - t8_1))) ((⟨x1.to_.column, x1.to_.row⟩ : Block)) (((mget eqBlock ((mset eqBlock r1.2.2.1 ((⟨a1.column, a1.row⟩ : Block)) (((mget eqBlock r1.2.2.1 ((⟨a1.column, a1.row⟩ : Block))).getD 0) - t8_1))) ((⟨x1.to_.column, x1.to_.row⟩ : Block))).getD 0) + t8_1)))), eck b_a0_passed (encMap ekLink ekI (ment eqLink m3 ((⟨(⟨x2.from_.column, x2.from_.row⟩ : Block), (⟨x2.to_.column, x2.to_.row⟩ : Block)⟩ : Link)) 0)) (ekLink ((⟨(⟨x2.from_.column, x2.from_.row⟩ : Block), (⟨x2.to_.column, x2.to_.row⟩ : Block)⟩ : Link))) bo4, .blk b1 98 [.slice A_a0_bog_worth a0.bog.worth.length c_a0_bog_worth, .map (some b_a0_has), .map (some b_a0_passed)]] ++ R) := H.setE 3 rfl M8 En4
                    replace R0 := H.ext
                    refine DW.thru rfl rfl rfl (fun _ EQ => RV.extract rfl rfl) ?_
                    refine DW.sole rfl rfl rfl (OW.value (RV.lookupE (ek := ekLink) (ev' := ekI) (eq := eqLink) (m := m3) ((⟨(⟨x2.from_.column, x2.from_.row⟩ : Block), (⟨x2.to_.column, x2.to_.row⟩ : Block)⟩ : Link)) 0 KO101 Tm96 Tz3 rfl rfl (H.ent 3 rfl)) ⟨fun _ => Ext.refl _, ModX.refl _ _, ?_⟩)
                    refine DW.thru rfl rfl rfl (fun _ EQ => RV.add rfl rfl hg5) ?_
                    refine DW.sole rfl rfl rfl (OW.storeEnt (ek := ekLink) (ev' := ekI) (eq := eqLink) (m := m3) ((⟨(⟨x2.from_.column, x2.from_.row⟩ : Block), (⟨x2.to_.column, x2.to_.row⟩ : Block)⟩ : Link)) 0 (((mget eqLink m3 ((⟨(⟨x2.from_.column, x2.from_.row⟩ : Block), (⟨x2.to_.column, x2.to_.row⟩ : Block)⟩ : Link))).getD 0) + t8_1) KO101 rfl rfl rfl (H.ent 3 rfl) fun w19 M9 O4 => ?_)
                    refine ⟨fun h => absurd h (by decide), M9.modx (fun _ _ => trivial), ?_⟩
                    replace H : Hp wb w19 ([.blk b5 101 [.int .i64 x2.from_.column, .int .i64 x2.from_.row, .int .i64 x2.to_.column, .int .i64 x2.to_.row], .own A3_0 c3_0 101 4 (List.map encLink r1.1), .mp b_a0_has (encMap ekBlock ekI ((mset eqBlock ((mset eqBlock r1.2.2.1 ((⟨a1.column, a1.row⟩ : Block)) (((mget eqBlock r1.2.2.1 ((⟨a1.column, a1.row⟩ : Block))).getD 0) - t8_1))) ((⟨x1.to_.column, x1.to_.row⟩ : Block)) (((mget eqBlock ((mset eqBlock r1.2.2.1 ((⟨a1.column, a1.row⟩ : Block)) (((mget eqBlock r1.2.2.1 ((⟨a1.column, a1.row⟩ : Block))).getD 0) - t8_1))) ((⟨x1.to_.column, x1.to_.row⟩ : Block))).getD 0) + t8_1)))), .mp b_a0_passed (encMap ekLink ekI ((mset eqLink m3 ((⟨(⟨x2.from_.column, x2.from_.row⟩ : Block), (⟨x2.to_.column, x2.to_.row⟩ : Block)⟩ : Link)) (((mget eqLink m3 ((⟨(⟨x2.from_.column, x2.from_.row⟩ : Block), (⟨x2.to_.column, x2.to_.row⟩ : Block)⟩ : Link))).getD 0) + t8_1)))), .blk b1 98 [.slice A_a0_bog_worth a0.bog.worth.length c_a0_bog_worth, .map (some b_a0_has), .map (some b_a0_passed)]] ++ R) := H.setS 3 rfl M9 O4
                    replace R0 := H.ext
                    replace H := H.pickR (C := [.blk b5 101 [.int .i64 x2.from_.column, .int .i64 x2.from_.row, .int .i64 x2.to_.column, .int .i64 x2.to_.row], .own A3_0 c3_0 101 4 (List.map encLink r1.1), .mp b_a0_has (encMap ekBlock ekI ((mset eqBlock ((mset eqBlock r1.2.2.1 ((⟨a1.column, a1.row⟩ : Block)) (((mget eqBlock r1.2.2.1 ((⟨a1.column, a1.row⟩ : Block))).getD 0) - t8_1))) ((⟨x1.to_.column, x1.to_.row⟩ : Block)) (((mget eqBlock ((mset eqBlock r1.2.2.1 ((⟨a1.column, a1.row⟩ : Block)) (((mget eqBlock r1.2.2.1 ((⟨a1.column, a1.row⟩ : Block))).getD 0) - t8_1))) ((⟨x1.to_.column, x1.to_.row⟩ : Block))).getD 0) + t8_1)))), .mp b_a0_passed (encMap ekLink ekI ((mset eqLink m3 ((⟨(⟨x2.from_.column, x2.from_.row⟩ : Block), (⟨x2.to_.column, x2.to_.row⟩ : Block)⟩ : Link)) (((mget eqLink m3 ((⟨(⟨x2.from_.column, x2.from_.row⟩ : Block), (⟨x2.to_.column, x2.to_.row⟩ : Block)⟩ : Link))).getD 0) + t8_1)))), .blk b1 98 [.slice A_a0_bog_worth a0.bog.worth.length c_a0_bog_worth, .map (some b_a0_has), .map (some b_a0_passed)]]) (C' := [.own A3_0 c3_0 101 4 (List.map encLink r1.1), .mp b_a0_has (encMap ekBlock ekI ((mset eqBlock ((mset eqBlock r1.2.2.1 ((⟨a1.column, a1.row⟩ : Block)) (((mget eqBlock r1.2.2.1 ((⟨a1.column, a1.row⟩ : Block))).getD 0) - t8_1))) ((⟨x1.to_.column, x1.to_.row⟩ : Block)) (((mget eqBlock ((mset eqBlock r1.2.2.1 ((⟨a1.column, a1.row⟩ : Block)) (((mget eqBlock r1.2.2.1 ((⟨a1.column, a1.row⟩ : Block))).getD 0) - t8_1))) ((⟨x1.to_.column, x1.to_.row⟩ : Block))).getD 0) + t8_1)))), .mp b_a0_passed (encMap ekLink ekI ((mset eqLink m3 ((⟨(⟨x2.from_.column, x2.from_.row⟩ : Block), (⟨x2.to_.column, x2.to_.row⟩ : Block)⟩ : Link)) (((mget eqLink m3 ((⟨(⟨x2.from_.column, x2.from_.row⟩ : Block), (⟨x2.to_.column, x2.to_.row⟩ : Block)⟩ : Link))).getD 0) + t8_1)))), .blk b1 98 [.slice A_a0_bog_worth a0.bog.worth.length c_a0_bog_worth, .map (some b_a0_has), .map (some b_a0_passed)]]) [1, 2, 3, 4] (by decide) rfl
                    replace R0 := H.ext
                    refine DW.nil (jK172 _ _ ⟨_, ?_, ⟨((mset eqLink m3 ((⟨(⟨x2.from_.column, x2.from_.row⟩ : Block), (⟨x2.to_.column, x2.to_.row⟩ : Block)⟩ : Link)) (((mget eqLink m3 ((⟨(⟨x2.from_.column, x2.from_.row⟩ : Block), (⟨x2.to_.column, x2.to_.row⟩ : Block)⟩ : Link))).getD 0) + t8_1))), F, rfl, H⟩⟩)
                    exact ⟨rfl, rfl, rfl, (look_slice rfl (by first | rfl | (simp; done) | omega | (simp; omega))), rfl, rfl, trivial⟩
            ·
              replace F := ite_n hp2 F
              have hq2 := dec_f hp2
              refine CW.condF rfl hq2 ?_
              replace H := H.pickR (C := [.own A3_0 c3_0 101 4 (List.map encLink r1.1), .mp b_a0_has (encMap ekBlock ekI ((mset eqBlock ((mset eqBlock r1.2.2.1 ((⟨a1.column, a1.row⟩ : Block)) (((mget eqBlock r1.2.2.1 ((⟨a1.column, a1.row⟩ : Block))).getD 0) - t8_1))) ((⟨x1.to_.column, x1.to_.row⟩ : Block)) (((mget eqBlock ((mset eqBlock r1.2.2.1 ((⟨a1.column, a1.row⟩ : Block)) (((mget eqBlock r1.2.2.1 ((⟨a1.column, a1.row⟩ : Block))).getD 0) - t8_1))) ((⟨x1.to_.column, x1.to_.row⟩ : Block))).getD 0) + t8_1)))), .mp b_a0_passed (encMap ekLink ekI m3), .blk b1 98 [.slice A_a0_bog_worth a0.bog.worth.length c_a0_bog_worth, .map (some b_a0_has), .map (some b_a0_passed)]]) (C' := [.mp b_a0_has (encMap ekBlock ekI ((mset eqBlock ((mset eqBlock r1.2.2.1 ((⟨a1.column, a1.row⟩ : Block)) (((mget eqBlock r1.2.2.1 ((⟨a1.column, a1.row⟩ : Block))).getD 0) - t8_1))) ((⟨x1.to_.column, x1.to_.row⟩ : Block)) (((mget eqBlock ((mset eqBlock r1.2.2.1 ((⟨a1.column, a1.row⟩ : Block)) (((mget eqBlock r1.2.2.1 ((⟨a1.column, a1.row⟩ : Block))).getD 0) - t8_1))) ((⟨x1.to_.column, x1.to_.row⟩ : Block))).getD 0) + t8_1)))), .mp b_a0_passed (encMap ekLink ekI m3)]) [1, 2] (by decide) rfl
              replace R0 := H.ext
              refine CW.exit (jK152 _ _ ⟨_, ?_, ⟨m3, F, rfl, H⟩⟩)
              exact ⟨rfl, trivial⟩
        ·
          intro K15 hK15 jK175
          obtain ⟨hg6, F⟩ := gd_some F
          refine CW.draw [6, 8] (fun _ => True) (.cons 0 1 (.cons 1 1 (.cons 2 1 (.cons 4 1 (.alt 3 (.cons 5 2 (.cons 6 0 (.cons 7 2 (.cons 8 0 .nil)))) (.cons 6 0 (.cons 7 2 (.cons 3 0 (.cons 5 2 (.cons 8 0 .nil)))))))))) mixed (by kernel_rfl) fun w20 E4 => ?_
          replace H := H.grow E4
          replace R0 := H.ext
          refine DW.fix rfl rfl rfl (fun _ EQ => RV.fieldAddr Tf98_1 rfl) ?_
          refine DW.fix rfl rfl rfl (fun _ EQ => RV.load1 Tk90 rfl (((H.grow EQ).blk 3 rfl).cells.off 1) rfl) ?_
          refine DW.fix rfl rfl rfl (fun _ EQ => RV.loadA [.int .i64 x1.to_.column, .int .i64 x1.to_.row] Tk92 rfl ((H.grow EQ).blk 4 rfl).cells rfl rfl) ?_
          refine DW.fix rfl rfl rfl (fun _ EQ => RV.move rfl) ?_
          refine DW.alt ?_ ?_
          ·
            refine DW.sole rfl rfl rfl (OW.value (RV.lookupM (ek := ekBlock) (ev' := ekI) (eq := eqBlock) (m := (mset eqBlock r1.2.2.1 ((⟨a1.column, a1.row⟩ : Block)) (((mget eqBlock r1.2.2.1 ((⟨a1.column, a1.row⟩ : Block))).getD 0) - t8_1))) ((⟨x1.to_.column, x1.to_.row⟩ : Block)) 0 KO92 Tm90 Tz3 rfl rfl (H.mp 1 rfl)) ⟨fun _ => Ext.refl _, ModX.refl _ _, ?_⟩)
            refine DW.thru rfl rfl rfl (fun _ EQ => RV.add rfl rfl hg6) ?_
            refine DW.sole rfl rfl rfl (OW.entryM (ek := ekBlock) (ev' := ekI) (eq := eqBlock) (m := (mset eqBlock r1.2.2.1 ((⟨a1.column, a1.row⟩ : Block)) (((mget eqBlock r1.2.2.1 ((⟨a1.column, a1.row⟩ : Block))).getD 0) - t8_1))) ((⟨x1.to_.column, x1.to_.row⟩ : Block)) 0 KO92 Tm90 Tz3 rfl rfl (H.mp 1 rfl) fun w21 bo5 M10 En5 => ?_)
            refine ⟨fun h => absurd h (by decide), M10.modx (fun _ _ => trivial), ?_⟩
            replace H : Hp wb w21 ([.own A3_0 c3_0 101 4 (List.map encLink r1.1), eck b_a0_has (encMap ekBlock ekI (ment eqBlock ((mset eqBlock r1.2.2.1 ((⟨a1.column, a1.row⟩ : Block)) (((mget eqBlock r1.2.2.1 ((⟨a1.column, a1.row⟩ : Block))).getD 0) - t8_1))) ((⟨x1.to_.column, x1.to_.row⟩ : Block)) 0)) (ekBlock ((⟨x1.to_.column, x1.to_.row⟩ : Block))) bo5, .mp b_a0_passed (encMap ekLink ekI r1.2.2.2.1), .blk b1 98 [.slice A_a0_bog_worth a0.bog.worth.length c_a0_bog_worth, .map (some b_a0_has), .map (some b_a0_passed)], .blk b4 92 [.int .i64 x1.to_.column, .int .i64 x1.to_.row]] ++ R) := H.setE 1 rfl M10 En5
            replace R0 := H.ext
            refine DW.thru rfl rfl rfl (fun _ EQ => RV.extract rfl rfl) ?_
            refine DW.sole rfl rfl rfl (OW.storeEnt (ek := ekBlock) (ev' := ekI) (eq := eqBlock) (m := (mset eqBlock r1.2.2.1 ((⟨a1.column, a1.row⟩ : Block)) (((mget eqBlock r1.2.2.1 ((⟨a1.column, a1.row⟩ : Block))).getD 0) - t8_1))) ((⟨x1.to_.column, x1.to_.row⟩ : Block)) 0 (((mget eqBlock ((mset eqBlock r1.2.2.1 ((⟨a1.column, a1.row⟩ : Block)) (((mget eqBlock r1.2.2.1 ((⟨a1.column, a1.row⟩ : Block))).getD 0) - t8_1))) ((⟨x1.to_.column, x1.to_.row⟩ : Block))).getD 0) + t8_1) KO92 rfl rfl rfl (H.ent 1 rfl) fun w22 M11 O5 => ?_)
            refine ⟨fun h => absurd h (by decide), M11.modx (fun _ _ => trivial), ?_⟩
            replace H : Hp wb w22 ([.own A3_0 c3_0 101 4 (List.map encLink r1.1), .mp b_a0_has (encMap ekBlock ekI ((mset eqBlock ((mset eqBlock r1.2.2.1 ((⟨a1.column, a1.row⟩ : Block)) (((mget eqBlock r1.2.2.1 ((⟨a1.column, a1.row⟩ : Block))).getD 0) - t8_1))) ((⟨x1.to_.column, x1.to_.row⟩ : Block)) (((mget eqBlock ((mset eqBlock r1.2.2.1 ((⟨a1.column, a1.row⟩ : Block)) (((mget eqBlock r1.2.2.1 ((⟨a1.column, a1.row⟩ : Block))).getD 0) - t8_1))) ((⟨x1.to_.column, x1.to_.row⟩ : Block))).getD 0) + t8_1)))), .mp b_a0_passed (encMap ekLink ekI r1.2.2.2.1), .blk b1 98 [.slice A_a0_bog_worth a0.bog.worth.length c_a0_bog_worth, .map (some b_a0_has), .map (some b_a0_passed)], .blk b4 92 [.int .i64 x1.to_.column, .int .i64 x1.to_.row]] ++ R) := H.setS 1 rfl M11 O5
            replace R0 := H.ext
            replace H := H.pickR (C := [.own A3_0 c3_0 101 4 (List.map encLink r1.1), .mp b_a0_has (encMap ekBlock ekI ((mset eqBlock ((mset eqBlock r1.2.2.1 ((⟨a1.column, a1.row⟩ : Block)) (((mget eqBlock r1.2.2.1 ((⟨a1.column, a1.row⟩ : Block))).getD 0) - t8_1))) ((⟨x1.to_.column, x1.to_.row⟩ : Block)) (((mget eqBlock ((mset eqBlock r1.2.2.1 ((⟨a1.column, a1.row⟩ : Block)) (((mget eqBlock r1.2.2.1 ((⟨a1.column, a1.row⟩ : Block))).getD 0) - t8_1))) ((⟨x1.to_.column, x1.to_.row⟩ : Block))).getD 0) + t8_1)))), .mp b_a0_passed (encMap ekLink ekI r1.2.2.2.1), .blk b1 98 [.slice A_a0_bog_worth a0.bog.worth.length c_a0_bog_worth, .map (some b_a0_has), .map (some b_a0_passed)], .blk b4 92 [.int .i64 x1.to_.column, .int .i64 x1.to_.row]]) (C' := [.own A3_0 c3_0 101 4 (List.map encLink r1.1), .mp b_a0_has (encMap ekBlock ekI ((mset eqBlock ((mset eqBlock r1.2.2.1 ((⟨a1.column, a1.row⟩ : Block)) (((mget eqBlock r1.2.2.1 ((⟨a1.column, a1.row⟩ : Block))).getD 0) - t8_1))) ((⟨x1.to_.column, x1.to_.row⟩ : Block)) (((mget eqBlock ((mset eqBlock r1.2.2.1 ((⟨a1.column, a1.row⟩ : Block)) (((mget eqBlock r1.2.2.1 ((⟨a1.column, a1.row⟩ : Block))).getD 0) - t8_1))) ((⟨x1.to_.column, x1.to_.row⟩ : Block))).getD 0) + t8_1)))), .mp b_a0_passed (encMap ekLink ekI r1.2.2.2.1), .blk b1 98 [.slice A_a0_bog_worth a0.bog.worth.length c_a0_bog_worth, .map (some b_a0_has), .map (some b_a0_passed)]]) [0, 1, 2, 3] (by decide) rfl
            replace R0 := H.ext
            refine DW.nil (jK175 _ _ ⟨_, ?_, ⟨F, rfl, H⟩⟩)
            exact ⟨rfl, rfl, (look_slice rfl (by first | rfl | (simp; done) | omega | (simp; omega))), rfl, trivial⟩
          ·
            refine DW.sole rfl rfl rfl (OW.entryM (ek := ekBlock) (ev' := ekI) (eq := eqBlock) (m := (mset eqBlock r1.2.2.1 ((⟨a1.column, a1.row⟩ : Block)) (((mget eqBlock r1.2.2.1 ((⟨a1.column, a1.row⟩ : Block))).getD 0) - t8_1))) ((⟨x1.to_.column, x1.to_.row⟩ : Block)) 0 KO92 Tm90 Tz3 rfl rfl (H.mp 1 rfl) fun w23 bo6 M12 En6 => ?_)
            refine ⟨fun h => absurd h (by decide), M12.modx (fun _ _ => trivial), ?_⟩
            replace H : Hp wb w23 ([.own A3_0 c3_0 101 4 (List.map encLink r1.1), eck b_a0_has (encMap ekBlock ekI (ment eqBlock ((mset eqBlock r1.2.2.1 ((⟨a1.column, a1.row⟩ : Block)) (((mget eqBlock r1.2.2.1 ((⟨a1.column, a1.row⟩ : Block))).getD 0) - t8_1))) ((⟨x1.to_.column, x1.to_.row⟩ : Block)) 0)) (ekBlock ((⟨x1.to_.column, x1.to_.row⟩ : Block))) bo6, .mp b_a0_passed (encMap ekLink ekI r1.2.2.2.1), .blk b1 98 [.slice A_a0_bog_worth a0.bog.worth.length c_a0_bog_worth, .map (some b_a0_has), .map (some b_a0_passed)], .blk b4 92 [.int .i64 x1.to_.column, .int .i64 x1.to_.row]] ++ R) := H.setE 1 rfl M12 En6
            replace R0 := H.ext
            refine DW.thru rfl rfl rfl (fun _ EQ => RV.extract rfl rfl) ?_
            refine DW.sole rfl rfl rfl (OW.value (RV.lookupE (ek := ekBlock) (ev' := ekI) (eq := eqBlock) (m := (mset eqBlock r1.2.2.1 ((⟨a1.column, a1.row⟩ : Block)) (((mget eqBlock r1.2.2.1 ((⟨a1.column, a1.row⟩ : Block))).getD 0) - t8_1))) ((⟨x1.to_.column, x1.to_.row⟩ : Block)) 0 KO92 Tm90 Tz3 rfl rfl (H.ent 1 rfl)) ⟨fun _ => Ext.refl _, ModX.refl _ _, ?_⟩)
            refine DW.thru rfl rfl rfl (fun _ EQ => RV.add rfl rfl hg6) ?_
            refine DW.sole rfl rfl rfl (OW.storeEnt (ek := ekBlock) (ev' := ekI) (eq := eqBlock) (m := (mset eqBlock r1.2.2.1 ((⟨a1.column, a1.row⟩ : Block)) (((mget eqBlock r1.2.2.1 ((⟨a1.column, a1.row⟩ : Block))).getD 0) - t8_1))) ((⟨x1.to_.column, x1.to_.row⟩ : Block)) 0 (((mget eqBlock ((mset eqBlock r1.2.2.1 ((⟨a1.column, a1.row⟩ : Block)) (((mget eqBlock r1.2.2.1 ((⟨a1.column, a1.row⟩ : Block))).getD 0) - t8_1))) ((⟨x1.to_.column, x1.to_.row⟩ : Block))).getD 0) + t8_1) KO92 rfl rfl rfl (H.ent 1 rfl) fun w24 M13 O6 => ?_)
            refine ⟨fun h => absurd h (by decide), M13.modx (fun _ _ => trivial), ?_⟩
            replace H : Hp wb w24 ([.own A3_0 c3_0 101 4 (List.map encLink r1.1), .mp b_a0_has (encMap ekBlock ekI ((mset eqBlock ((mset eqBlock r1.2.2.1 ((⟨a1.column, a1.row⟩ : Block)) (((mget eqBlock r1.2.2.1 ((⟨a1.column, a1.row⟩ : Block))).getD 0) - t8_1))) ((⟨x1.to_.column, x1.to_.row⟩ : Block)) (((mget eqBlock ((mset eqBlock r1.2.2.1 ((⟨a1.column, a1.row⟩ : Block)) (((mget eqBlock r1.2.2.1 ((⟨a1.column, a1.row⟩ : Block))).getD 0) - t8_1))) ((⟨x1.to_.column, x1.to_.row⟩ : Block))).getD 0) + t8_1)))), .mp b_a0_passed (encMap ekLink ekI r1.2.2.2.1), .blk b1 98 [.slice A_a0_bog_worth a0.bog.worth.length c_a0_bog_worth, .map (some b_a0_has), .map (some b_a0_passed)], .blk b4 92 [.int .i64 x1.to_.column, .int .i64 x1.to_.row]] ++ R) := H.setS 1 rfl M13 O6
            replace R0 := H.ext
            replace H := H.pickR (C := [.own A3_0 c3_0 101 4 (List.map encLink r1.1), .mp b_a0_has (encMap ekBlock ekI ((mset eqBlock ((mset eqBlock r1.2.2.1 ((⟨a1.column, a1.row⟩ : Block)) (((mget eqBlock r1.2.2.1 ((⟨a1.column, a1.row⟩ : Block))).getD 0) - t8_1))) ((⟨x1.to_.column, x1.to_.row⟩ : Block)) (((mget eqBlock ((mset eqBlock r1.2.2.1 ((⟨a1.column, a1.row⟩ : Block)) (((mget eqBlock r1.2.2.1 ((⟨a1.column, a1.row⟩ : Block))).getD 0) - t8_1))) ((⟨x1.to_.column, x1.to_.row⟩ : Block))).getD 0) + t8_1)))), .mp b_a0_passed (encMap ekLink ekI r1.2.2.2.1), .blk b1 98 [.slice A_a0_bog_worth a0.bog.worth.length c_a0_bog_worth, .map (some b_a0_has), .map (some b_a0_passed)], .blk b4 92 [.int .i64 x1.to_.column, .int .i64 x1.to_.row]]) (C' := [.own A3_0 c3_0 101 4 (List.map encLink r1.1), .mp b_a0_has (encMap ekBlock ekI ((mset eqBlock ((mset eqBlock r1.2.2.1 ((⟨a1.column, a1.row⟩ : Block)) (((mget eqBlock r1.2.2.1 ((⟨a1.column, a1.row⟩ : Block))).getD 0) - t8_1))) ((⟨x1.to_.column, x1.to_.row⟩ : Block)) (((mget eqBlock ((mset eqBlock r1.2.2.1 ((⟨a1.column, a1.row⟩ : Block)) (((mget eqBlock r1.2.2.1 ((⟨a1.column, a1.row⟩ : Block))).getD 0) - t8_1))) ((⟨x1.to_.column, x1.to_.row⟩ : Block))).getD 0) + t8_1)))), .mp b_a0_passed (encMap ekLink ekI r1.2.2.2.1), .blk b1 98 [.slice A_a0_bog_worth a0.bog.worth.length c_a0_bog_worth, .map (some b_a0_has), .map (some b_a0_passed)]]) [0, 1, 2, 3] (by decide) rfl
            replace R0 := H.ext
            refine DW.nil (jK175 _ _ ⟨_, ?_, ⟨F, rfl, H⟩⟩)
            exact ⟨rfl, rfl, (look_slice rfl (by first | rfl | (simp; done) | omega | (simp; omega))), rfl, trivial⟩
      ·
        intro K16 hK16 jK176
        obtain ⟨hg7, F⟩ := gd_some F
        refine CW.draw [6, 8] (fun _ => True) (.cons 0 1 (.cons 1 1 (.cons 2 1 (.cons 4 1 (.alt 3 (.cons 5 2 (.cons 6 0 (.cons 7 2 (.cons 8 0 .nil)))) (.cons 6 0 (.cons 7 2 (.cons 3 0 (.cons 5 2 (.cons 8 0 .nil)))))))))) mixed (by kernel_rfl) fun w25 E5 => ?_
        replace H := H.grow E5
        replace R0 := H.ext
        refine DW.fix rfl rfl rfl (fun _ EQ => RV.fieldAddr Tf98_1 rfl) ?_
        refine DW.fix rfl rfl rfl (fun _ EQ => RV.load1 Tk90 rfl (((H.grow EQ).blk 3 rfl).cells.off 1) rfl) ?_
        refine DW.fix rfl rfl rfl (fun _ EQ => RV.loadA [.int .i64 a1.column, .int .i64 a1.row] Tk92 rfl ((H.grow EQ).blk 4 rfl).cells rfl rfl) ?_
        refine DW.fix rfl rfl rfl (fun _ EQ => RV.move rfl) ?_
        refine DW.alt ?_ ?_
        ·
          refine DW.sole rfl rfl rfl (OW.value (RV.lookupM (ek := ekBlock) (ev' := ekI) (eq := eqBlock) (m := r1.2.2.1) ((⟨a1.column, a1.row⟩ : Block)) 0 KO92 Tm90 Tz3 rfl rfl (H.mp 1 rfl)) ⟨fun _ => Ext.refl _, ModX.refl _ _, ?_⟩)
          refine DW.thru rfl rfl rfl (fun _ EQ => RV.sub rfl rfl hg7) ?_
          refine DW.sole rfl rfl rfl (OW.entryM (ek := ekBlock) (ev' := ekI) (eq := eqBlock) (m := r1.2.2.1) ((⟨a1.column, a1.row⟩ : Block)) 0 KO92 Tm90 Tz3 rfl rfl (H.mp 1 rfl) fun w26 bo7 M14 En7 => ?_)
          refine ⟨fun h => absurd h (by decide), M14.modx (fun _ _ => trivial), ?_⟩
          replace H : Hp wb w26 ([.own A3_0 c3_0 101 4 (List.map encLink r1.1), eck b_a0_has (encMap ekBlock ekI (ment eqBlock r1.2.2.1 ((⟨a1.column, a1.row⟩ : Block)) 0)) (ekBlock ((⟨a1.column, a1.row⟩ : Block))) bo7, .mp b_a0_passed (encMap ekLink ekI r1.2.2.2.1), .blk b1 98 [.slice A_a0_bog_worth a0.bog.worth.length c_a0_bog_worth, .map (some b_a0_has), .map (some b_a0_passed)], .blk b2 92 [.int .i64 a1.column, .int .i64 a1.row], .blk b4 92 [.int .i64 x1.to_.column, .int .i64 x1.to_.row]] ++ R) := H.setE 1 rfl M14 En7
          replace R0 := H.ext
          refine DW.thru rfl rfl rfl (fun _ EQ => RV.extract rfl rfl) ?_
          refine DW.sole rfl rfl rfl (OW.storeEnt (ek := ekBlock) (ev' := ekI) (eq := eqBlock) (m := r1.2.2.1) ((⟨a1.column, a1.row⟩ : Block)) 0 (((mget eqBlock r1.2.2.1 ((⟨a1.column, a1.row⟩ : Block))).getD 0) - t8_1) KO92 rfl rfl rfl (H.ent 1 rfl) fun w27 M15 O7 => ?_)
          refine ⟨fun h => absurd h (by decide), M15.modx (fun _ _ => trivial), ?_⟩
          replace H : Hp wb w27 ([.own A3_0 c3_0 101 4 (List.map encLink r1.1), .mp b_a0_has (encMap ekBlock ekI ((mset eqBlock r1.2.2.1 ((⟨a1.column, a1.row⟩ : Block)) (((mget eqBlock r1.2.2.1 ((⟨a1.column, a1.row⟩ : Block))).getD 0) - t8_1)))), .mp b_a0_passed (encMap ekLink ekI r1.2.2.2.1), .blk b1 98 [.slice A_a0_bog_worth a0.bog.worth.length c_a0_bog_worth, .map (some b_a0_has), .map (some b_a0_passed)], .blk b2 92 [.int .i64 a1.column, .int .i64 a1.row], .blk b4 92 [.int .i64 x1.to_.column, .int .i64 x1.to_.row]] ++ R) := H.setS 1 rfl M15 O7
          replace R0 := H.ext
          replace H := H.pickR (C := [.own A3_0 c3_0 101 4 (List.map encLink r1.1), .mp b_a0_has (encMap ekBlock ekI ((mset eqBlock r1.2.2.1 ((⟨a1.column, a1.row⟩ : Block)) (((mget eqBlock r1.2.2.1 ((⟨a1.column, a1.row⟩ : Block))).getD 0) - t8_1)))), .mp b_a0_passed (encMap ekLink ekI r1.2.2.2.1), .blk b1 98 [.slice A_a0_bog_worth a0.bog.worth.length c_a0_bog_worth, .map (some b_a0_has), .map (some b_a0_passed)], .blk b2 92 [.int .i64 a1.column, .int .i64 a1.row], .blk b4 92 [.int .i64 x1.to_.column, .int .i64 x1.to_.row]]) (C' := [.own A3_0 c3_0 101 4 (List.map encLink r1.1), .mp b_a0_has (encMap ekBlock ekI ((mset eqBlock r1.2.2.1 ((⟨a1.column, a1.row⟩ : Block)) (((mget eqBlock r1.2.2.1 ((⟨a1.column, a1.row⟩ : Block))).getD 0) - t8_1)))), .mp b_a0_passed (encMap ekLink ekI r1.2.2.2.1), .blk b1 98 [.slice A_a0_bog_worth a0.bog.worth.length c_a0_bog_worth, .map (some b_a0_has), .map (some b_a0_passed)], .blk b4 92 [.int .i64 x1.to_.column, .int .i64 x1.to_.row]]) [0, 1, 2, 3, 5] (by decide) rfl
          replace R0 := H.ext
          refine DW.nil (jK176 _ _ ⟨_, ?_, ⟨F, rfl, H⟩⟩)
          exact ⟨rfl, rfl, (look_slice rfl (by first | rfl | (simp; done) | omega | (simp; omega))), rfl, rfl, trivial⟩
        ·
          refine DW.sole rfl rfl rfl (OW.entryM (ek := ekBlock) (ev' := ekI) (eq := eqBlock) (m := r1.2.2.1) ((⟨a1.column, a1.row⟩ : Block)) 0 KO92 Tm90 Tz3 rfl rfl (H.mp 1 rfl) fun w28 bo8 M16 En8 => ?_)
          refine ⟨fun h => absurd h (by decide), M16.modx (fun _ _ => trivial), ?_⟩
          replace H : Hp wb w28 ([.own A3_0 c3_0 101 4 (List.map encLink r1.1), eck b_a0_has (encMap ekBlock ekI (ment eqBlock r1.2.2.1 ((⟨a1.column, a1.row⟩ : Block)) 0)) (ekBlock ((⟨a1.column, a1.row⟩ : Block))) bo8, .mp b_a0_passed (encMap ekLink ekI r1.2.2.2.1), .blk b1 98 [.slice A_a0_bog_worth a0.bog.worth.length c_a0_bog_worth, .map (some b_a0_has), .map (some b_a0_passed)], .blk b2 92 [.int .i64 a1.column, .int .i64 a1.row], .blk b4 92 [.int .i64 x1.to_.column, .int .i64 x1.to_.row]] ++ R) := H.setE 1 rfl M16 En8
          replace R0 := H.ext
          refine DW.thru rfl rfl rfl (fun _ EQ => RV.extract rfl rfl) ?_
          refine DW.sole rfl rfl rfl (OW.value (RV.lookupE (ek := ekBlock) (ev' := ekI) (eq := eqBlock) (m := r1.2.2.1) ((⟨a1.column, a1.row⟩ : Block)) 0 KO92 Tm90 Tz3 rfl rfl (H.ent 1 rfl)) ⟨fun _ => Ext.refl _, ModX.refl _ _, ?_⟩)
          refine DW.thru rfl rfl rfl (fun _ EQ => RV.sub rfl rfl hg7) ?_
          refine DW.sole rfl rfl rfl (OW.storeEnt (ek := ekBlock) (ev' := ekI) (eq := eqBlock) (m := r1.2.2.1) ((⟨a1.column, a1.row⟩ : Block)) 0 (((mget eqBlock r1.2.2.1 ((⟨a1.column, a1.row⟩ : Block))).getD 0) - t8_1) KO92 rfl rfl rfl (H.ent 1 rfl) fun w29 M17 O8 => ?_)
          refine ⟨fun h => absurd h (by decide), M17.modx (fun _ _ => trivial), ?_⟩
          replace H : Hp wb w29 ([.own A3_0 c3_0 101 4 (List.map encLink r1.1), .mp b_a0_has (encMap ekBlock ekI ((mset eqBlock r1.2.2.1 ((⟨a1.column, a1.row⟩ : Block)) (((mget eqBlock r1.2.2.1 ((⟨a1.column, a1.row⟩ : Block))).getD 0) - t8_1)))), .mp b_a0_passed (encMap ekLink ekI r1.2.2.2.1), .blk b1 98 [.slice A_a0_bog_worth a0.bog.worth.length c_a0_bog_worth, .map (some b_a0_has), .map (some b_a0_passed)], .blk b2 92 [.int .i64 a1.column, .int .i64 a1.row], .blk b4 92 [.int .i64 x1.to_.column, .int .i64 x1.to_.row]] ++ R) := H.setS 1 rfl M17 O8
          replace R0 := H.ext
          replace H := H.pickR (C := [.own A3_0 c3_0 101 4 (List.map encLink r1.1), .mp b_a0_has (encMap ekBlock ekI ((mset eqBlock r1.2.2.1 ((⟨a1.column, a1.row⟩ : Block)) (((mget eqBlock r1.2.2.1 ((⟨a1.column, a1.row⟩ : Block))).getD 0) - t8_1)))), .mp b_a0_passed (encMap ekLink ekI r1.2.2.2.1), .blk b1 98 [.slice A_a0_bog_worth a0.bog.worth.length c_a0_bog_worth, .map (some b_a0_has), .map (some b_a0_passed)], .blk b2 92 [.int .i64 a1.column, .int .i64 a1.row], .blk b4 92 [.int .i64 x1.to_.column, .int .i64 x1.to_.row]]) (C' := [.own A3_0 c3_0 101 4 (List.map encLink r1.1), .mp b_a0_has (encMap ekBlock ekI ((mset eqBlock r1.2.2.1 ((⟨a1.column, a1.row⟩ : Block)) (((mget eqBlock r1.2.2.1 ((⟨a1.column, a1.row⟩ : Block))).getD 0) - t8_1)))), .mp b_a0_passed (encMap ekLink ekI r1.2.2.2.1), .blk b1 98 [.slice A_a0_bog_worth a0.bog.worth.length c_a0_bog_worth, .map (some b_a0_has), .map (some b_a0_passed)], .blk b4 92 [.int .i64 x1.to_.column, .int .i64 x1.to_.row]]) [0, 1, 2, 3, 5] (by decide) rfl
          replace R0 := H.ext
          refine DW.nil (jK176 _ _ ⟨_, ?_, ⟨F, rfl, H⟩⟩)
          exact ⟨rfl, rfl, (look_slice rfl (by first | rfl | (simp; done) | omega | (simp; omega))), rfl, rfl, trivial⟩
    ·
      intro K17 hK17 jK177
      refine CW.seq fun K18 hK18 => ?_
      refine CW.region ?_
      refine LW.pure rfl rfl (RV.move rfl) ?_
      refine LW.pure rfl rfl (RV.len Ts106 rfl) ?_
      refine LW.pure rfl rfl (RV.move rfl) ?_
      refine LW.nil (hK18 _ _ ?_)
      refine CW.block ?_
      replace H := H.pickR (C := [.blk b4 92 [.int .i64 x1.to_.column, .int .i64 x1.to_.row], .mp b_a0_has (encMap ekBlock ekI r1.2.2.1), .mp b_a0_passed (encMap ekLink ekI r1.2.2.2.1), .mp b3 (encMap ekBlock ekBl r1.2.2.2.2), .own A3_0 c3_0 101 4 (List.map encLink r1.1), .blk b2 92 [.int .i64 a1.column, .int .i64 a1.row], .blk b1 98 [.slice A_a0_bog_worth a0.bog.worth.length c_a0_bog_worth, .map (some b_a0_has), .map (some b_a0_passed)]]) (C' := [.own A3_0 c3_0 101 4 (List.map encLink r1.1), .mp b_a0_has (encMap ekBlock ekI r1.2.2.1), .mp b_a0_passed (encMap ekLink ekI r1.2.2.2.1), .blk b1 98 [.slice A_a0_bog_worth a0.bog.worth.length c_a0_bog_worth, .map (some b_a0_has), .map (some b_a0_passed)], .blk b2 92 [.int .i64 a1.column, .int .i64 a1.row], .blk b4 92 [.int .i64 x1.to_.column, .int .i64 x1.to_.row]]) [4, 1, 2, 6, 5, 0] (by decide) rfl
      replace R0 := H.ext
      refine CW.loop (fun meas ρ wl7 => ∃ (t8_3 : Int) (t41_1 : Int), cut_payer_pay_L2 a1 r1 x1 meas t8_3 t41_1 = some res ∧ ρ = [(2, .pointer (some (⟨b1, 0, none⟩))), (3, .pointer (some (⟨b2, 0, none⟩))), (4, .bool false), (5, .slice A3_0 r1.1.length c3_0), (7, .pointer (some (⟨b4, 0, none⟩))), (8, .int .i64 t8_3), (39, .slice A3_0 r1.1.length c3_0), (40, .int .i64 ((r1.1.length : Int))), (41, .int .i64 t41_1)] ∧ Hp wb wl7 ([.own A3_0 c3_0 101 4 (List.map encLink r1.1), .mp b_a0_has (encMap ekBlock ekI r1.2.2.1), .mp b_a0_passed (encMap ekLink ekI r1.2.2.2.1), .blk b1 98 [.slice A_a0_bog_worth a0.bog.worth.length c_a0_bog_worth, .map (some b_a0_has), .map (some b_a0_passed)], .blk b2 92 [.int .i64 a1.column, .int .i64 a1.row], .blk b4 92 [.int .i64 x1.to_.column, .int .i64 x1.to_.row]] ++ R)) FU ⟨_, ?_, (min ((mget eqBlock r1.2.2.1 ((⟨a1.column, a1.row⟩ : Block))).getD 0) (-((mget eqBlock r1.2.2.1 ((⟨x1.to_.column, x1.to_.row⟩ : Block))).getD 0))), ((0 : Int)), F, rfl, H⟩ ?_
      · exact ⟨rfl, rfl, rfl, (look_slice rfl (by first | rfl | (simp; done) | omega | (simp; omega))), rfl, rfl, (look_slice rfl (by first | rfl | (simp; done) | omega | (simp; omega))), rfl, rfl, trivial⟩
      rintro mk2 _ wl7 ⟨t8_3, t41_1, F, rfl, H⟩
      have R0 := H.ext
      replace F := cut_payer_pay_L2_s F
      obtain ⟨mk2, rfl, F⟩ := F
      generalize hrec2 : cut_payer_pay_L2 a1 r1 x1 mk2 = rec2 at F
      unfold cut_payer_pay_B2 at F
      refine CW.seq fun K19 hK19 => ?_
      refine CW.region ?_
      refine LW.pure rfl rfl (RV.lss rfl rfl) ?_
      refine LW.nil (hK19 _ _ ?_)
      refine CW.seq fun K20 hK20 => ?_
      by_cases hp4 : t41_1 < ((r1.1.length : Int))
      ·
        replace F := ite_y hp4 F
        have hq4 := dec_t hp4
        refine CW.condT rfl hq4 ?_
        refine CW.skip (hK20 _ _ ?_)
        refine CW.seqJ (fun ρ wl8 => (∃ (t8_2 : Int), cut_payer_pay_k6 t41_1 rec2 t8_2 = some res ∧ ρ = [(2, .pointer (some (⟨b1, 0, none⟩))), (3, .pointer (some (⟨b2, 0, none⟩))), (4, .bool false), (5, .slice A3_0 r1.1.length c3_0), (7, .pointer (some (⟨b4, 0, none⟩))), (8, .int .i64 t8_2), (39, .slice A3_0 r1.1.length c3_0), (40, .int .i64 ((r1.1.length : Int))), (41, .int .i64 t41_1)] ∧ Hp wb wl8 ([.own A3_0 c3_0 101 4 (List.map encLink r1.1), .mp b_a0_has (encMap ekBlock ekI r1.2.2.1), .mp b_a0_passed (encMap ekLink ekI r1.2.2.2.1), .blk b1 98 [.slice A_a0_bog_worth a0.bog.worth.length c_a0_bog_worth, .map (some b_a0_has), .map (some b_a0_passed)], .blk b2 92 [.int .i64 a1.column, .int .i64 a1.row], .blk b4 92 [.int .i64 x1.to_.column, .int .i64 x1.to_.row]] ++ R))) ?_ ?_
        ·
          rintro _ wl8 ⟨t8_2, F, rfl, H⟩
          have R0 := H.ext
          unfold cut_payer_pay_k6 at F
          obtain ⟨hg8, F⟩ := gd_some F
          refine CW.region ?_
          refine LW.pure rfl rfl (RV.add rfl rfl hg8) ?_
          refine LW.pure rfl rfl (RV.move rfl) ?_
          refine LW.nil ?_
          subst hrec2
          refine ⟨mk2, Nat.lt_succ_self _, _, ?_, t8_2, (t41_1 + 1), F, rfl, H⟩
          exact ⟨rfl, rfl, rfl, (look_slice rfl (by first | rfl | (simp; done) | omega | (simp; omega))), rfl, rfl, (look_slice rfl (by first | rfl | (simp; done) | omega | (simp; omega))), rfl, rfl, trivial⟩
        ·
          intro K21 hK21 jK197
          refine CW.block ?_
          refine CW.seq fun K22 hK22 => ?_
          obtain ⟨x3, hbx3, hx3, F⟩ := ix_some F
          refine CW.region ?_
          refine LW.pure rfl rfl (RV.indexAddr Ts106 rfl rfl hbx3 ((H.own 0 rfl).sl.addr_ hx3)) ?_
          refine LW.pure rfl rfl (RV.loadA [.int .i64 x3.from_.column, .int .i64 x3.from_.row, .int .i64 x3.to_.column, .int .i64 x3.to_.row] Tk101 rfl ((H.own 0 rfl).sl.at_ hx3) rfl rfl) ?_
          refine LW.go rfl rfl (OW.alloc Tz101 fun b6 w30 N6 => ?_)
          replace H := H.new N6 N6.blk
          replace R0 := H.ext
          refine LW.go rfl rfl (OW.store Tk101 rfl rfl (H.blk 0 rfl) (off := 0) (vs := [.int .i64 x3.from_.column, .int .i64 x3.from_.row, .int .i64 x3.to_.column, .int .i64 x3.to_.row]) rfl rfl rfl rfl rfl fun w31 S3 => ?_)
          replace H : Hp wb w31 ([.blk b6 101 [.int .i64 x3.from_.column, .int .i64 x3.from_.row, .int .i64 x3.to_.column, .int .i64 x3.to_.row], .own A3_0 c3_0 101 4 (List.map encLink r1.1), .mp b_a0_has (encMap ekBlock ekI r1.2.2.1), .mp b_a0_passed (encMap ekLink ekI r1.2.2.2.1), .blk b1 98 [.slice A_a0_bog_worth a0.bog.worth.length c_a0_bog_worth, .map (some b_a0_has), .map (some b_a0_passed)], .blk b2 92 [.int .i64 a1.column, .int .i64 a1.row], .blk b4 92 [.int .i64 x1.to_.column, .int .i64 x1.to_.row]] ++ R) := H.stored 0 rfl S3
          replace R0 := H.ext
          refine LW.nil (hK22 _ _ ?_)
          refine CW.seq fun K23 hK23 => ?_
          refine CW.region ?_
          refine LW.pure rfl rfl (RV.fieldAddr Tf101_1 rfl) ?_
          refine LW.pure rfl rfl (RV.fieldAddr Tf92_1 rfl) ?_
          refine LW.pure rfl rfl (RV.load1 Tk3 rfl (((H.blk 0 rfl).cells.off 2).off 1) rfl) ?_
          refine LW.pure rfl rfl (RV.fieldAddr Tf101_0 rfl) ?_
          refine LW.pure rfl rfl (RV.fieldAddr Tf92_1 rfl) ?_
          refine LW.pure rfl rfl (RV.load1 Tk3 rfl (((H.blk 0 rfl).cells.off 0).off 1) rfl) ?_
          refine LW.pure rfl rfl (RV.gtr rfl rfl) ?_
          refine LW.nil (hK23 _ _ ?_)
          by_cases hp5 : x3.from_.row < x3.to_.row
          ·
            replace F := ite_y hp5 F
            have hq5 := dec_t hp5
            refine CW.condT rfl hq5 ?_
            refine CW.region ?_
            refine LW.pure rfl rfl (RV.move rfl) ?_
            refine LW.pure rfl rfl (RV.fieldAddr Tf98_2 rfl) ?_
            refine LW.pure rfl rfl (RV.load1 Tk96 rfl ((H.blk 4 rfl).cells.off 2) rfl) ?_
            refine LW.pure rfl rfl (RV.fieldAddr Tf101_1 rfl) ?_
            refine LW.pure rfl rfl (RV.loadA [.int .i64 x3.to_.column, .int .i64 x3.to_.row] Tk92 rfl ((H.blk 0 rfl).cells.off 2) rfl rfl) ?_
            refine LW.pure rfl rfl (RV.fieldAddr Tf101_0 rfl) ?_
            refine LW.pure rfl rfl (RV.loadA [.int .i64 x3.from_.column, .int .i64 x3.from_.row] Tk92 rfl ((H.blk 0 rfl).cells.off 0) rfl rfl) ?_
            refine LW.pure rfl rfl (RV.build (vs := [.agg #[.int .i64 x3.to_.column, .int .i64 x3.to_.row], .agg #[.int .i64 x3.from_.column, .int .i64 x3.from_.row]]) (cs := [.int .i64 x3.to_.column, .int .i64 x3.to_.row, .int .i64 x3.from_.column, .int .i64 x3.from_.row]) rfl (fun _ => by kernel_rfl)) ?_
            refine LW.pure rfl rfl (RV.lookupM (ek := ekLink) (ev' := ekI) (eq := eqLink) (m := r1.2.2.2.1) ((⟨(⟨x3.to_.column, x3.to_.row⟩ : Block), (⟨x3.from_.column, x3.from_.row⟩ : Block)⟩ : Link)) 0 KO101 Tm96 Tz3 rfl rfl (H.mp 3 rfl)) ?_
            refine LW.pure rfl rfl (RV.min2 rfl rfl) ?_
            refine LW.pure rfl rfl (RV.assign rfl) ?_
            replace H := H.pickR (C := [.blk b6 101 [.int .i64 x3.from_.column, .int .i64 x3.from_.row, .int .i64 x3.to_.column, .int .i64 x3.to_.row], .own A3_0 c3_0 101 4 (List.map encLink r1.1), .mp b_a0_has (encMap ekBlock ekI r1.2.2.1), .mp b_a0_passed (encMap ekLink ekI r1.2.2.2.1), .blk b1 98 [.slice A_a0_bog_worth a0.bog.worth.length c_a0_bog_worth, .map (some b_a0_has), .map (some b_a0_passed)], .blk b2 92 [.int .i64 a1.column, .int .i64 a1.row], .blk b4 92 [.int .i64 x1.to_.column, .int .i64 x1.to_.row]]) (C' := [.own A3_0 c3_0 101 4 (List.map encLink r1.1), .mp b_a0_has (encMap ekBlock ekI r1.2.2.1), .mp b_a0_passed (encMap ekLink ekI r1.2.2.2.1), .blk b1 98 [.slice A_a0_bog_worth a0.bog.worth.length c_a0_bog_worth, .map (some b_a0_has), .map (some b_a0_passed)], .blk b2 92 [.int .i64 a1.column, .int .i64 a1.row], .blk b4 92 [.int .i64 x1.to_.column, .int .i64 x1.to_.row]]) [1, 2, 3, 4, 5, 6] (by decide) rfl
            replace R0 := H.ext
            refine LW.nil (jK197 _ _ ⟨_, ?_, ⟨(min t8_3 ((mget eqLink r1.2.2.2.1 ((⟨(⟨x3.to_.column, x3.to_.row⟩ : Block), (⟨x3.from_.column, x3.from_.row⟩ : Block)⟩ : Link))).getD 0)), F, rfl, H⟩⟩)
            exact ⟨rfl, rfl, rfl, (look_slice rfl (by first | rfl | (simp; done) | omega | (simp; omega))), rfl, rfl, (look_slice rfl (by first | rfl | (simp; done) | omega | (simp; omega))), rfl, rfl, trivial⟩
          ·
            replace F := ite_n hp5 F
            have hq5 := dec_f hp5
            refine CW.condF rfl hq5 ?_
            replace H := H.pickR (C := [.blk b6 101 [.int .i64 x3.from_.column, .int .i64 x3.from_.row, .int .i64 x3.to_.column, .int .i64 x3.to_.row], .own A3_0 c3_0 101 4 (List.map encLink r1.1), .mp b_a0_has (encMap ekBlock ekI r1.2.2.1), .mp b_a0_passed (encMap ekLink ekI r1.2.2.2.1), .blk b1 98 [.slice A_a0_bog_worth a0.bog.worth.length c_a0_bog_worth, .map (some b_a0_has), .map (some b_a0_passed)], .blk b2 92 [.int .i64 a1.column, .int .i64 a1.row], .blk b4 92 [.int .i64 x1.to_.column, .int .i64 x1.to_.row]]) (C' := [.own A3_0 c3_0 101 4 (List.map encLink r1.1), .mp b_a0_has (encMap ekBlock ekI r1.2.2.1), .mp b_a0_passed (encMap ekLink ekI r1.2.2.2.1), .blk b1 98 [.slice A_a0_bog_worth a0.bog.worth.length c_a0_bog_worth, .map (some b_a0_has), .map (some b_a0_passed)], .blk b2 92 [.int .i64 a1.column, .int .i64 a1.row], .blk b4 92 [.int .i64 x1.to_.column, .int .i64 x1.to_.row]]) [1, 2, 3, 4, 5, 6] (by decide) rfl
            replace R0 := H.ext
            refine CW.skip (jK197 _ _ ⟨_, ?_, ⟨t8_3, F, rfl, H⟩⟩)
            exact ⟨rfl, rfl, rfl, (look_slice rfl (by first | rfl | (simp; done) | omega | (simp; omega))), rfl, rfl, (look_slice rfl (by first | rfl | (simp; done) | omega | (simp; omega))), rfl, rfl, trivial⟩
      ·
        replace F := ite_n hp4 F
        have hq4 := dec_f hp4
        refine CW.condF rfl hq4 ?_
        refine CW.exit (jK177 _ _ ⟨_, ?_, ⟨t8_3, F, rfl, H⟩⟩)
        exact ⟨rfl, rfl, rfl, (look_slice rfl (by first | rfl | (simp; done) | omega | (simp; omega))), rfl, rfl, trivial⟩
  ·
    replace F := ite_n hp1 F
    have hq1 : r1.2.1 = false := raw_f hp1
    refine CW.condT rfl (not_t hq1) ?_
    refine CW.seq fun K24 hK24 => ?_
    refine CW.region ?_
    refine LW.pure rfl rfl (RV.assign rfl) ?_
    refine LW.nil (hK24 _ _ ?_)
    refine CW.ret ?_
    obtain rfl := Option.some.inj F
    refine ⟨_, (ResOK.one rfl), ?_⟩
    replace H := H.pickR (C := [.mp b_a0_has (encMap ekBlock ekI r1.2.2.1), .mp b_a0_passed (encMap ekLink ekI r1.2.2.2.1), .mp b3 (encMap ekBlock ekBl r1.2.2.2.2), .own A3_0 c3_0 101 4 (List.map encLink r1.1), .blk b2 92 [.int .i64 a1.column, .int .i64 a1.row], .blk b1 98 [.slice A_a0_bog_worth a0.bog.worth.length c_a0_bog_worth, .map (some b_a0_has), .map (some b_a0_passed)]]) (C' := [.mp b_a0_has (encMap ekBlock ekI r1.2.2.1), .mp b_a0_passed (encMap ekLink ekI r1.2.2.2.1)]) [0, 1] (by decide) rfl
    replace R0 := H.ext
    exact ⟨(by first | rfl | (simp; done) | (simp; omega)), H⟩
end Go.D4

set_option linter.unusedVariables false
set_option linter.unusedSimpArgs false
namespace Go.D4
open Go.Tb Go.Proofs Go.RowKit
theorem Tc95 : callable Try.prog 95 = true := by kernel_rfl
theorem Tz98 : tyZ Try.prog 98 = some (.agg #[.slice none 0 0, .map none, .map none]) := by kernel_rfl
set_option maxRecDepth 20000 in
set_option maxHeartbeats 1000000 in
theorem cut_Proof_ok {a0 : Bog} {A_a0_worth : Option Addr} {c_a0_worth : Nat} {w : World} {res : (List Pass) × Int} (h_a0_worth : Sl2 w A_a0_worth c_a0_worth 1 encN a0.worth) (F : cut_Proof a0 = some res) : Calls Try.prog 59 #[.agg #[.slice A_a0_worth a0.worth.length c_a0_worth]] w (fun e w' => ∃ (A1 : Option Addr) (c1 : Nat), e = .returned (.tuple #[.slice A1 res.1.length c1, .int .i64 res.2]) ∧ Hp w w' [.own A1 c1 94 4 (List.map encPass res.1)]) := by
  refine calls_of_cw (args := [.agg #[.slice A_a0_worth a0.worth.length c_a0_worth]]) Try.func59 rfl rfl rfl rfl ?_
  have H := Hp.start w
  have R0 := H.ext
  unfold cut_Proof at F
  refine CW.seq fun K1 hK1 => ?_
  refine CW.region ?_
  refine LW.go rfl rfl (OW.box rfl fun b1 w1 N1 => ?_)
  replace H := H.new N1 N1.blk
  replace R0 := H.ext
  refine LW.pure rfl rfl (RV.assign rfl) ?_
  refine LW.pure rfl rfl (RV.assign rfl) ?_
  refine LW.nil (hK1 _ _ ?_)
  refine CW.seq fun K2 hK2 => ?_
  refine CW.seq fun K3 hK3 => ?_
  obtain ⟨r4, hr4, F⟩ := bnd_some F
  refine CW.region ?_
  refine LW.pure rfl rfl (RV.loadA [.slice A_a0_worth a0.worth.length c_a0_worth] Tk24 rfl (H.blk 0 rfl).cells rfl rfl) ?_
  refine LW.go rfl rfl (OW.call Tc25 rfl (cut_Validate_ok (a0 := a0) (h_a0_worth.ext R0) hr4) ?_)
  rintro _ w2 ⟨rfl, E1⟩
  refine ⟨_, rfl, ?_⟩
  replace H := H.grow E1
  replace R0 := H.ext
  refine LW.pure rfl rfl (RV.assign rfl) ?_
  refine LW.nil (hK3 _ _ ?_)
  refine CW.seq fun K4 hK4 => ?_
  refine CW.region ?_
  refine LW.pure rfl rfl (RV.move rfl) ?_
  refine LW.pure rfl rfl (RV.nei rfl rfl) ?_
  refine LW.nil (hK4 _ _ ?_)
  by_cases hp1 : r4 = 0
  ·
    replace F := ite_y hp1 F
    have hq1 := dec_t hp1
    refine CW.condF rfl (not_f hq1) ?_
    refine CW.skip (hK2 _ _ ?_)
    refine CW.seq fun K5 hK5 => ?_
    refine CW.region ?_
    refine LW.pure rfl rfl (RV.loadA [.slice A_a0_worth a0.worth.length c_a0_worth] Tk24 rfl (H.blk 0 rfl).cells rfl rfl) ?_
    refine LW.go rfl rfl (OW.makeMap fun b2 w3 N2 M1 => ?_)
    replace H : Hp w w3 [.mp b2 (encMap ekBlock ekI (([] : List (Block × Int)))), .blk b1 24 [.slice A_a0_worth a0.worth.length c_a0_worth]] := H.newM N2 M1
    replace R0 := H.ext
    refine LW.go rfl rfl (OW.makeMap fun b3 w4 N3 M2 => ?_)
    replace H : Hp w w4 [.mp b3 (encMap ekLink ekI (([] : List (Link × Int)))), .mp b2 (encMap ekBlock ekI (([] : List (Block × Int)))), .blk b1 24 [.slice A_a0_worth a0.worth.length c_a0_worth]] := H.newM N3 M2
    replace R0 := H.ext
    refine LW.pure rfl rfl (RV.build (vs := [.agg #[.slice A_a0_worth a0.worth.length c_a0_worth], .map (some b2), .map (some b3)]) (cs := [.slice A_a0_worth a0.worth.length c_a0_worth, .map (some b2), .map (some b3)]) rfl (fun _ => by kernel_rfl)) ?_
    refine LW.go rfl rfl (OW.alloc Tz98 fun b4 w5 N4 => ?_)
    replace H := H.new N4 N4.blk
    replace R0 := H.ext
    refine LW.go rfl rfl (OW.store Tk98 rfl rfl (H.blk 0 rfl) (off := 0) (vs := [.slice A_a0_worth a0.worth.length c_a0_worth, .map (some b2), .map (some b3)]) rfl rfl rfl rfl rfl fun w6 S1 => ?_)
    replace H : Hp w w6 [.blk b4 98 [.slice A_a0_worth a0.worth.length c_a0_worth, .map (some b2), .map (some b3)], .mp b3 (encMap ekLink ekI (([] : List (Link × Int)))), .mp b2 (encMap ekBlock ekI (([] : List (Block × Int)))), .blk b1 24 [.slice A_a0_worth a0.worth.length c_a0_worth]] := H.stored 0 rfl S1
    replace R0 := H.ext
    refine LW.nil (hK5 _ _ ?_)
    refine CW.seqJ (fun ρ wl1 => (∃ (m15 : List (Block × Int)), cut_Proof_k9 a0 m15 = some res ∧ ρ = [(1, .pointer (some (⟨b1, 0, none⟩))), (2, .slice none 0 0), (3, .int .i64 0), (5, .pointer (some (⟨b4, 0, none⟩)))] ∧ Hp w wl1 [.mp b2 (encMap ekBlock ekI m15), .mp b3 (encMap ekLink ekI (([] : List (Link × Int)))), .blk b1 24 [.slice A_a0_worth a0.worth.length c_a0_worth], .blk b4 98 [.slice A_a0_worth a0.worth.length c_a0_worth, .map (some b2), .map (some b3)]])) ?_ ?_
    ·
      rintro _ wl1 ⟨m15, F, rfl, H⟩
      have R0 := H.ext
      unfold cut_Proof_k9 at F
      refine CW.seqJ (fun ρ wl2 => (∃ (m2 : List (Block × Int)) (m1 : List (Link × Int)), cut_Proof_k5 a0 m2 m1 = some res ∧ ρ = [(1, .pointer (some (⟨b1, 0, none⟩))), (2, .slice none 0 0), (3, .int .i64 0), (5, .pointer (some (⟨b4, 0, none⟩)))] ∧ Hp w wl2 [.mp b2 (encMap ekBlock ekI m2), .mp b3 (encMap ekLink ekI m1), .blk b1 24 [.slice A_a0_worth a0.worth.length c_a0_worth], .blk b4 98 [.slice A_a0_worth a0.worth.length c_a0_worth, .map (some b2), .map (some b3)]])) ?_ ?_
      ·
        rintro _ wl2 ⟨m2, m1, F, rfl, H⟩
        have R0 := H.ext
        unfold cut_Proof_k5 at F
        refine CW.seq fun K6 hK6 => ?_
        refine CW.region ?_
        refine LW.pure rfl rfl (RV.assign rfl) ?_
        refine LW.nil (hK6 _ _ ?_)
        refine CW.seqJ (fun ρ wl3 => (∃ (l1 : List Pass) (Al1 : Option Addr) (cl1 : Nat), cut_Proof_k1 l1 = some res ∧ ρ = [(2, .slice none 0 0), (3, .int .i64 0), (13, .slice Al1 l1.length cl1)] ∧ Hp w wl3 [.own Al1 cl1 94 4 (List.map encPass l1)])) ?_ ?_
        ·
          rintro _ wl3 ⟨l1, Al1, cl1, F, rfl, H⟩
          have R0 := H.ext
          unfold cut_Proof_k1 at F
          refine CW.seq fun K7 hK7 => ?_
          refine CW.region ?_
          refine LW.pure rfl rfl (RV.move rfl) ?_
          refine LW.pure rfl rfl (RV.assign rfl) ?_
          refine LW.pure rfl rfl (RV.assign rfl) ?_
          refine LW.nil (hK7 _ _ ?_)
          refine CW.ret ?_
          obtain rfl := Option.some.inj F
          refine ⟨_, (ResOK.two rfl rfl), ?_⟩
          exact ⟨Al1, cl1, (by first | rfl | (simp; done) | (simp; omega)), H⟩
        ·
          intro K8 hK8 jK4267
          refine CW.seq fun K9 hK9 => ?_
          refine CW.region ?_
          refine LW.pure rfl rfl (RV.fieldAddr Tf24_0 rfl) ?_
          refine LW.pure rfl rfl (RV.load1 Tk22 rfl ((H.blk 2 rfl).cells.off 0) rfl) ?_
          refine LW.pure rfl rfl (RV.len Ts22 rfl) ?_
          refine LW.pure rfl rfl (RV.move rfl) ?_
          refine LW.nil (hK9 _ _ ?_)
          refine CW.block ?_
          replace H := H.nilOwn 94 4
          replace R0 := H.ext
          refine CW.loop (fun meas ρ wl4 => ∃ (t81_1 : Int) (l7 : List Pass) (Al7 : Option Addr) (cl7 : Nat), cut_Proof_L3 a0 m1 meas t81_1 l7 = some res ∧ ρ = [(1, .pointer (some (⟨b1, 0, none⟩))), (2, .slice none 0 0), (3, .int .i64 0), (5, .pointer (some (⟨b4, 0, none⟩))), (13, .slice Al7 l7.length cl7), (80, .int .i64 ((a0.worth.length : Int))), (81, .int .i64 t81_1)] ∧ Hp w wl4 [.own Al7 cl7 94 4 (List.map encPass l7), .mp b2 (encMap ekBlock ekI m2), .mp b3 (encMap ekLink ekI m1), .blk b1 24 [.slice A_a0_worth a0.worth.length c_a0_worth], .blk b4 98 [.slice A_a0_worth a0.worth.length c_a0_worth, .map (some b2), .map (some b3)]]) FU ⟨_, ?_, ((0 : Int)), (([] : List Pass)), none, 0, F, rfl, H⟩ ?_
          · exact ⟨rfl, rfl, rfl, rfl, (look_slice rfl (by first | rfl | (simp; done) | omega | (simp; omega))), rfl, rfl, trivial⟩
          rintro mk1 _ wl4 ⟨t81_1, l7, Al7, cl7, F, rfl, H⟩
          have R0 := H.ext
          replace F := cut_Proof_L3_s F
          obtain ⟨mk1, rfl, F⟩ := F
          generalize hrec1 : cut_Proof_L3 a0 m1 mk1 = rec1 at F
          unfold cut_Proof_B3 at F
          refine CW.seq fun K10 hK10 => ?_
          refine CW.region ?_
          refine LW.pure rfl rfl (RV.lss rfl rfl) ?_
          refine LW.nil (hK10 _ _ ?_)
          refine CW.seq fun K11 hK11 => ?_
          by_cases hp2 : t81_1 < ((a0.worth.length : Int))
          ·
            replace F := ite_y hp2 F
            have hq2 := dec_t hp2
            refine CW.condT rfl hq2 ?_
            refine CW.skip (hK11 _ _ ?_)
            refine CW.seqJ (fun ρ wl5 => (∃ (l2 : List Pass) (Al2 : Option Addr) (cl2 : Nat), cut_Proof_k2 t81_1 rec1 l2 = some res ∧ ρ = [(1, .pointer (some (⟨b1, 0, none⟩))), (2, .slice none 0 0), (3, .int .i64 0), (5, .pointer (some (⟨b4, 0, none⟩))), (13, .slice Al2 l2.length cl2), (80, .int .i64 ((a0.worth.length : Int))), (81, .int .i64 t81_1)] ∧ Hp w wl5 [.own Al2 cl2 94 4 (List.map encPass l2), .mp b2 (encMap ekBlock ekI m2), .mp b3 (encMap ekLink ekI m1), .blk b1 24 [.slice A_a0_worth a0.worth.length c_a0_worth], .blk b4 98 [.slice A_a0_worth a0.worth.length c_a0_worth, .map (some b2), .map (some b3)]])) ?_ ?_
            ·
              rintro _ wl5 ⟨l2, Al2, cl2, F, rfl, H⟩
              have R0 := H.ext
              unfold cut_Proof_k2 at F
              obtain ⟨hg1, F⟩ := gd_some F
              refine CW.region ?_
              refine LW.pure rfl rfl (RV.add rfl rfl hg1) ?_
              refine LW.pure rfl rfl (RV.move rfl) ?_
              refine LW.nil ?_
              subst hrec1
              refine ⟨mk1, Nat.lt_succ_self _, _, ?_, (t81_1 + 1), l2, Al2, cl2, F, rfl, H⟩
              exact ⟨rfl, rfl, rfl, rfl, (look_slice rfl (by first | rfl | (simp; done) | omega | (simp; omega))), rfl, rfl, trivial⟩
            ·
              intro K12 hK12 jK4992
              refine CW.block ?_
              refine CW.seq fun K13 hK13 => ?_
              refine CW.region ?_
              refine LW.pure rfl rfl (RV.move rfl) ?_
              refine LW.pure rfl rfl (RV.assign rfl) ?_
              refine LW.nil (hK13 _ _ ?_)
              refine CW.seq fun K14 hK14 => ?_
              refine CW.region ?_
              refine LW.pure rfl rfl (RV.assign rfl) ?_
              refine LW.nil (hK14 _ _ ?_)
              refine CW.block ?_
              refine CW.loop (fun meas ρ wl6 => ∃ (t15_1 : Int) (l6 : List Pass) (Al6 : Option Addr) (cl6 : Nat), cut_Proof_L2 a0 m1 t81_1 rec1 meas t15_1 l6 = some res ∧ ρ = [(1, .pointer (some (⟨b1, 0, none⟩))), (2, .slice none 0 0), (3, .int .i64 0), (5, .pointer (some (⟨b4, 0, none⟩))), (13, .slice Al6 l6.length cl6), (14, .int .i64 t81_1), (15, .int .i64 t15_1), (80, .int .i64 ((a0.worth.length : Int))), (81, .int .i64 t81_1)] ∧ Hp w wl6 [.own Al6 cl6 94 4 (List.map encPass l6), .mp b2 (encMap ekBlock ekI m2), .mp b3 (encMap ekLink ekI m1), .blk b1 24 [.slice A_a0_worth a0.worth.length c_a0_worth], .blk b4 98 [.slice A_a0_worth a0.worth.length c_a0_worth, .map (some b2), .map (some b3)]]) FU ⟨_, ?_, ((1 : Int)), l7, Al7, cl7, F, rfl, H⟩ ?_
              · exact ⟨rfl, rfl, rfl, rfl, (look_slice rfl (by first | rfl | (simp; done) | omega | (simp; omega))), rfl, rfl, rfl, rfl, trivial⟩
              rintro mk2 _ wl6 ⟨t15_1, l6, Al6, cl6, F, rfl, H⟩
              have R0 := H.ext
              replace F := cut_Proof_L2_s F
              obtain ⟨mk2, rfl, F⟩ := F
              generalize hrec2 : cut_Proof_L2 a0 m1 t81_1 rec1 mk2 = rec2 at F
              unfold cut_Proof_B2 at F
              refine CW.seq fun K15 hK15 => ?_
              refine CW.seq fun K16 hK16 => ?_
              obtain ⟨r1, hr1, F⟩ := bnd_some F
              refine CW.region ?_
              refine LW.pure rfl rfl (RV.move rfl) ?_
              refine LW.pure rfl rfl (RV.loadA [.slice A_a0_worth a0.worth.length c_a0_worth] Tk24 rfl (H.blk 3 rfl).cells rfl rfl) ?_
              refine LW.go rfl rfl (OW.call Tc68 rfl (cut_depth_ok (a0 := a0) (h_a0_worth.ext R0) hr1) ?_)
              rintro _ w7 ⟨rfl, E2⟩
              refine ⟨_, rfl, ?_⟩
              replace H := H.grow E2
              replace R0 := H.ext
              refine LW.pure rfl rfl (RV.lss rfl rfl) ?_
              refine LW.nil (hK16 _ _ ?_)
              by_cases hp3 : t15_1 < r1
              ·
                replace F := ite_y hp3 F
                have hq3 := dec_t hp3
                refine CW.condT rfl hq3 ?_
                refine CW.skip (hK15 _ _ ?_)
                refine CW.seqJ (fun ρ wl7 => (∃ (l3 : List Pass) (Al3 : Option Addr) (cl3 : Nat), cut_Proof_k3 t15_1 rec2 l3 = some res ∧ ρ = [(1, .pointer (some (⟨b1, 0, none⟩))), (2, .slice none 0 0), (3, .int .i64 0), (5, .pointer (some (⟨b4, 0, none⟩))), (13, .slice Al3 l3.length cl3), (14, .int .i64 t81_1), (15, .int .i64 t15_1), (80, .int .i64 ((a0.worth.length : Int))), (81, .int .i64 t81_1)] ∧ Hp w wl7 [.own Al3 cl3 94 4 (List.map encPass l3), .mp b2 (encMap ekBlock ekI m2), .mp b3 (encMap ekLink ekI m1), .blk b1 24 [.slice A_a0_worth a0.worth.length c_a0_worth], .blk b4 98 [.slice A_a0_worth a0.worth.length c_a0_worth, .map (some b2), .map (some b3)]])) ?_ ?_
                ·
                  rintro _ wl7 ⟨l3, Al3, cl3, F, rfl, H⟩
                  have R0 := H.ext
                  unfold cut_Proof_k3 at F
                  obtain ⟨hg2, F⟩ := gd_some F
                  refine CW.region ?_
                  refine LW.pure rfl rfl (RV.move rfl) ?_
                  refine LW.pure rfl rfl (RV.add rfl rfl hg2) ?_
                  refine LW.pure rfl rfl (RV.assign rfl) ?_
                  refine LW.nil ?_
                  subst hrec2
                  refine ⟨mk2, Nat.lt_succ_self _, _, ?_, (t15_1 + 1), l3, Al3, cl3, F, rfl, H⟩
                  exact ⟨rfl, rfl, rfl, rfl, (look_slice rfl (by first | rfl | (simp; done) | omega | (simp; omega))), rfl, rfl, rfl, rfl, trivial⟩
                ·
                  intro K17 hK17 jK5113
                  refine CW.block ?_
                  refine CW.seq fun K18 hK18 => ?_
                  obtain ⟨hg3, F⟩ := gd_some F
                  refine CW.region ?_
                  refine LW.pure rfl rfl (RV.move rfl) ?_
                  refine LW.pure rfl rfl (RV.sub rfl rfl hg3) ?_
                  refine LW.pure rfl rfl (RV.assign rfl) ?_
                  refine LW.nil (hK18 _ _ ?_)
                  refine CW.block ?_
                  refine CW.loop (fun meas ρ wl8 => ∃ (t16_1 : Int) (l5 : List Pass) (Al5 : Option Addr) (cl5 : Nat), cut_Proof_L1 m1 t81_1 t15_1 rec2 meas t16_1 l5 = some res ∧ ρ = [(1, .pointer (some (⟨b1, 0, none⟩))), (2, .slice none 0 0), (3, .int .i64 0), (5, .pointer (some (⟨b4, 0, none⟩))), (13, .slice Al5 l5.length cl5), (14, .int .i64 t81_1), (15, .int .i64 t15_1), (16, .int .i64 t16_1), (80, .int .i64 ((a0.worth.length : Int))), (81, .int .i64 t81_1)] ∧ Hp w wl8 [.own Al5 cl5 94 4 (List.map encPass l5), .mp b2 (encMap ekBlock ekI m2), .mp b3 (encMap ekLink ekI m1), .blk b1 24 [.slice A_a0_worth a0.worth.length c_a0_worth], .blk b4 98 [.slice A_a0_worth a0.worth.length c_a0_worth, .map (some b2), .map (some b3)]]) FU ⟨_, ?_, (t81_1 - 1), l6, Al6, cl6, F, rfl, H⟩ ?_
                  · exact ⟨rfl, rfl, rfl, rfl, (look_slice rfl (by first | rfl | (simp; done) | omega | (simp; omega))), rfl, rfl, rfl, rfl, rfl, trivial⟩
                  rintro mk3 _ wl8 ⟨t16_1, l5, Al5, cl5, F, rfl, H⟩
                  have R0 := H.ext
                  replace F := cut_Proof_L1_s F
                  obtain ⟨mk3, rfl, F⟩ := F
                  generalize hrec3 : cut_Proof_L1 m1 t81_1 t15_1 rec2 mk3 = rec3 at F
                  unfold cut_Proof_B1 at F
                  refine CW.seq fun K19 hK19 => ?_
                  refine CW.seq fun K20 hK20 => ?_
                  obtain ⟨hg4, F⟩ := gd_some F
                  refine CW.region ?_
                  refine LW.pure rfl rfl (RV.move rfl) ?_
                  refine LW.pure rfl rfl (RV.move rfl) ?_
                  refine LW.pure rfl rfl (RV.add rfl rfl hg4) ?_
                  refine LW.pure rfl rfl (RV.leq rfl rfl) ?_
                  refine LW.nil (hK20 _ _ ?_)
                  by_cases hp4 : t16_1 ≤ (t81_1 + 1)
                  ·
                    replace F := ite_y hp4 F
                    have hq4 := dec_t hp4
                    refine CW.condT rfl hq4 ?_
                    refine CW.skip (hK19 _ _ ?_)
                    refine CW.seqJ (fun ρ wl9 => (∃ (l4 : List Pass) (Al4 : Option Addr) (cl4 : Nat), cut_Proof_k4 t16_1 rec3 l4 = some res ∧ ρ = [(1, .pointer (some (⟨b1, 0, none⟩))), (2, .slice none 0 0), (3, .int .i64 0), (5, .pointer (some (⟨b4, 0, none⟩))), (13, .slice Al4 l4.length cl4), (14, .int .i64 t81_1), (15, .int .i64 t15_1), (16, .int .i64 t16_1), (80, .int .i64 ((a0.worth.length : Int))), (81, .int .i64 t81_1)] ∧ Hp w wl9 [.own Al4 cl4 94 4 (List.map encPass l4), .mp b2 (encMap ekBlock ekI m2), .mp b3 (encMap ekLink ekI m1), .blk b1 24 [.slice A_a0_worth a0.worth.length c_a0_worth], .blk b4 98 [.slice A_a0_worth a0.worth.length c_a0_worth, .map (some b2), .map (some b3)]])) ?_ ?_
                    ·
                      rintro _ wl9 ⟨l4, Al4, cl4, F, rfl, H⟩
                      have R0 := H.ext
                      unfold cut_Proof_k4 at F
                      obtain ⟨hg5, F⟩ := gd_some F
                      refine CW.region ?_
                      refine LW.pure rfl rfl (RV.move rfl) ?_
                      refine LW.pure rfl rfl (RV.add rfl rfl hg5) ?_
                      refine LW.pure rfl rfl (RV.assign rfl) ?_
                      refine LW.nil ?_
                      subst hrec3
                      refine ⟨mk3, Nat.lt_succ_self _, _, ?_, (t16_1 + 1), l4, Al4, cl4, F, rfl, H⟩
                      exact ⟨rfl, rfl, rfl, rfl, (look_slice rfl (by first | rfl | (simp; done) | omega | (simp; omega))), rfl, rfl, rfl, rfl, rfl, trivial⟩
                    ·
                      intro K21 hK21 jK5133
                      refine CW.block ?_
                      refine CW.seq fun K22 hK22 => ?_
                      obtain ⟨hg6, F⟩ := gd_some F
                      refine CW.region ?_
                      refine LW.pure rfl rfl (RV.fieldAddr Tf98_2 rfl) ?_
                      refine LW.pure rfl rfl (RV.load1 Tk96 rfl ((H.blk 4 rfl).cells.off 2) rfl) ?_
                      refine LW.pure rfl rfl (RV.move rfl) ?_
                      refine LW.pure rfl rfl (RV.move rfl) ?_
                      refine LW.pure rfl rfl (RV.build (vs := [.int .i64 t81_1, .int .i64 t15_1]) (cs := [.int .i64 t81_1, .int .i64 t15_1]) rfl (fun _ => by kernel_rfl)) ?_
                      refine LW.pure rfl rfl (RV.move rfl) ?_
                      refine LW.pure rfl rfl (RV.move rfl) ?_
                      refine LW.pure rfl rfl (RV.sub rfl rfl hg6) ?_
                      refine LW.pure rfl rfl (RV.build (vs := [.int .i64 t16_1, .int .i64 (t15_1 - 1)]) (cs := [.int .i64 t16_1, .int .i64 (t15_1 - 1)]) rfl (fun _ => by kernel_rfl)) ?_
                      refine LW.pure rfl rfl (RV.build (vs := [.agg #[.int .i64 t81_1, .int .i64 t15_1], .agg #[.int .i64 t16_1, .int .i64 (t15_1 - 1)]]) (cs := [.int .i64 t81_1, .int .i64 t15_1, .int .i64 t16_1, .int .i64 (t15_1 - 1)]) rfl (fun _ => by kernel_rfl)) ?_
                      refine LW.pure rfl rfl (RV.lookupM (ek := ekLink) (ev' := ekI) (eq := eqLink) (m := m1) ((⟨(⟨t81_1, t15_1⟩ : Block), (⟨t16_1, t15_1 - 1⟩ : Block)⟩ : Link)) 0 KO101 Tm96 Tz3 rfl rfl (H.mp 2 rfl)) ?_
                      refine LW.pure rfl rfl (RV.assign rfl) ?_
                      refine LW.nil (hK22 _ _ ?_)
                      refine CW.seq fun K23 hK23 => ?_
                      refine CW.region ?_
                      refine LW.pure rfl rfl (RV.move rfl) ?_
                      refine LW.pure rfl rfl (RV.gtr rfl rfl) ?_
                      refine LW.nil (hK23 _ _ ?_)
                      by_cases hp5 : (0 : Int) < ((mget eqLink m1 ((⟨(⟨t81_1, t15_1⟩ : Block), (⟨t16_1, t15_1 - 1⟩ : Block)⟩ : Link))).getD 0)
                      ·
                        replace F := ite_y hp5 F
                        have hq5 := dec_t hp5
                        refine CW.condT rfl hq5 ?_
                        obtain ⟨hg7, F⟩ := gd_some F
                        refine CW.region ?_
                        refine LW.pure rfl rfl (RV.move rfl) ?_
                        refine LW.pure rfl rfl (RV.move rfl) ?_
                        refine LW.pure rfl rfl (RV.move rfl) ?_
                        refine LW.pure rfl rfl (RV.move rfl) ?_
                        refine LW.pure rfl rfl (RV.move rfl) ?_
                        refine LW.pure rfl rfl (RV.build (vs := [.int .i64 t81_1, .int .i64 t15_1, .int .i64 t16_1, .int .i64 ((mget eqLink m1 ((⟨(⟨t81_1, t15_1⟩ : Block), (⟨t16_1, t15_1 - 1⟩ : Block)⟩ : Link))).getD 0)]) (cs := [.int .i64 t81_1, .int .i64 t15_1, .int .i64 t16_1, .int .i64 ((mget eqLink m1 ((⟨(⟨t81_1, t15_1⟩ : Block), (⟨t16_1, t15_1 - 1⟩ : Block)⟩ : Link))).getD 0)]) rfl (fun _ => by kernel_rfl)) ?_
                        refine LW.go rfl rfl (OW.buildSlice (e := 94) (vs := [.agg #[.int .i64 t81_1, .int .i64 t15_1, .int .i64 t16_1, .int .i64 ((mget eqLink m1 ((⟨(⟨t81_1, t15_1⟩ : Block), (⟨t16_1, t15_1 - 1⟩ : Block)⟩ : Link))).getD 0)]]) (cs := [.int .i64 t81_1, .int .i64 t15_1, .int .i64 t16_1, .int .i64 ((mget eqLink m1 ((⟨(⟨t81_1, t15_1⟩ : Block), (⟨t16_1, t15_1 - 1⟩ : Block)⟩ : Link))).getD 0)]) rfl (fun _ => by kernel_rfl) fun b5 w8 N5 => ?_)
                        replace H := H.made' (k := 4) (t := 94) (enc := encPass) (l := ([(⟨t81_1, t15_1, t16_1, (mget eqLink m1 ((⟨(⟨t81_1, t15_1⟩ : Block), (⟨t16_1, t15_1 - 1⟩ : Block)⟩ : Link))).getD 0⟩ : Pass)] : List Pass)) N5 N5.blk (fun _ => rfl) rfl (by first | decide | omega | (simp; done) | (simp; omega))
                        replace R0 := H.ext
                        refine LW.go rfl rfl (OW.appendG (enc := encPass) (l := l5) (xs := ([(⟨t81_1, t15_1, t16_1, (mget eqLink m1 ((⟨(⟨t81_1, t15_1⟩ : Block), (⟨t16_1, t15_1 - 1⟩ : Block)⟩ : Link))).getD 0⟩ : Pass)] : List Pass)) Ts55 rfl (look_slice rfl (by first | rfl | (simp; done) | (simp; omega))) (H.own 1 rfl) (H.own 0 rfl).sl (fun _ => rfl) rfl rfl hg7 (by decide) fun A2 c2 w9 O1 M3 D1 => ?_)
                        replace H : Hp w w9 [.own (some ⟨b5, 0, none⟩) ((([(⟨t81_1, t15_1, t16_1, (mget eqLink m1 ((⟨(⟨t81_1, t15_1⟩ : Block), (⟨t16_1, t15_1 - 1⟩ : Block)⟩ : Link))).getD 0⟩ : Pass)] : List Pass)).length) 94 4 (List.map encPass (([(⟨t81_1, t15_1, t16_1, (mget eqLink m1 ((⟨(⟨t81_1, t15_1⟩ : Block), (⟨t16_1, t15_1 - 1⟩ : Block)⟩ : Link))).getD 0⟩ : Pass)] : List Pass))), .own A2 c2 94 4 (List.map encPass ((l5 ++ ([(⟨t81_1, t15_1, t16_1, (mget eqLink m1 ((⟨(⟨t81_1, t15_1⟩ : Block), (⟨t16_1, t15_1 - 1⟩ : Block)⟩ : Link))).getD 0⟩ : Pass)] : List Pass)))), .mp b2 (encMap ekBlock ekI m2), .mp b3 (encMap ekLink ekI m1), .blk b1 24 [.slice A_a0_worth a0.worth.length c_a0_worth], .blk b4 98 [.slice A_a0_worth a0.worth.length c_a0_worth, .map (some b2), .map (some b3)]] := H.mod 1 rfl M3 O1 D1
                        replace R0 := H.ext
                        refine LW.pure rfl rfl (RV.assign rfl) ?_
                        replace H := H.pick (L' := [.own A2 c2 94 4 (List.map encPass ((l5 ++ ([(⟨t81_1, t15_1, t16_1, (mget eqLink m1 ((⟨(⟨t81_1, t15_1⟩ : Block), (⟨t16_1, t15_1 - 1⟩ : Block)⟩ : Link))).getD 0⟩ : Pass)] : List Pass)))), .mp b2 (encMap ekBlock ekI m2), .mp b3 (encMap ekLink ekI m1), .blk b1 24 [.slice A_a0_worth a0.worth.length c_a0_worth], .blk b4 98 [.slice A_a0_worth a0.worth.length c_a0_worth, .map (some b2), .map (some b3)]]) [1, 2, 3, 4, 5] (by decide) rfl
                        replace R0 := H.ext
                        refine LW.nil (jK5133 _ _ ⟨_, ?_, ⟨((l5 ++ ([(⟨t81_1, t15_1, t16_1, (mget eqLink m1 ((⟨(⟨t81_1, t15_1⟩ : Block), (⟨t16_1, t15_1 - 1⟩ : Block)⟩ : Link))).getD 0⟩ : Pass)] : List Pass))), A2, c2, F, rfl, H⟩⟩)
                        exact ⟨rfl, rfl, rfl, rfl, (look_slice rfl (by first | rfl | (simp; done) | omega | (simp; omega))), rfl, rfl, rfl, rfl, rfl, trivial⟩
                      ·
                        replace F := ite_n hp5 F
                        have hq5 := dec_f hp5
                        refine CW.condF rfl hq5 ?_
                        refine CW.skip (jK5133 _ _ ⟨_, ?_, ⟨l5, Al5, cl5, F, rfl, H⟩⟩)
                        exact ⟨rfl, rfl, rfl, rfl, (look_slice rfl (by first | rfl | (simp; done) | omega | (simp; omega))), rfl, rfl, rfl, rfl, rfl, trivial⟩
                  ·
                    replace F := ite_n hp4 F
                    have hq4 := dec_f hp4
                    refine CW.condF rfl hq4 ?_
                    refine CW.exit (jK5113 _ _ ⟨_, ?_, ⟨l5, Al5, cl5, F, rfl, H⟩⟩)
                    exact ⟨rfl, rfl, rfl, rfl, (look_slice rfl (by first | rfl | (simp; done) | omega | (simp; omega))), rfl, rfl, rfl, rfl, trivial⟩
              ·
                replace F := ite_n hp3 F
                have hq3 := dec_f hp3
                refine CW.condF rfl hq3 ?_
                refine CW.exit (jK4992 _ _ ⟨_, ?_, ⟨l6, Al6, cl6, F, rfl, H⟩⟩)
                exact ⟨rfl, rfl, rfl, rfl, (look_slice rfl (by first | rfl | (simp; done) | omega | (simp; omega))), rfl, rfl, trivial⟩
          ·
            replace F := ite_n hp2 F
            have hq2 := dec_f hp2
            refine CW.condF rfl hq2 ?_
            replace H := H.pick (L' := [.own Al7 cl7 94 4 (List.map encPass l7)]) [0] (by decide) rfl
            replace R0 := H.ext
            refine CW.exit (jK4267 _ _ ⟨_, ?_, ⟨l7, Al7, cl7, F, rfl, H⟩⟩)
            exact ⟨rfl, rfl, (look_slice rfl (by first | rfl | (simp; done) | omega | (simp; omega))), trivial⟩
      ·
        intro K24 hK24 jK5136
        refine CW.seq fun K25 hK25 => ?_
        refine CW.region ?_
        refine LW.pure rfl rfl (RV.assign rfl) ?_
        refine LW.nil (hK25 _ _ ?_)
        refine CW.block ?_
        refine CW.loop (fun meas ρ wl10 => ∃ (t10_5 : Bool) (m13 : List (Block × Int)) (m14 : List (Link × Int)), cut_Proof_L6 a0 meas t10_5 m13 m14 = some res ∧ ρ = [(1, .pointer (some (⟨b1, 0, none⟩))), (2, .slice none 0 0), (3, .int .i64 0), (5, .pointer (some (⟨b4, 0, none⟩))), (10, .bool t10_5)] ∧ Hp w wl10 [.mp b2 (encMap ekBlock ekI m13), .mp b3 (encMap ekLink ekI m14), .blk b1 24 [.slice A_a0_worth a0.worth.length c_a0_worth], .blk b4 98 [.slice A_a0_worth a0.worth.length c_a0_worth, .map (some b2), .map (some b3)]]) FU ⟨_, ?_, true, m15, (([] : List (Link × Int))), F, rfl, H⟩ ?_
        · exact ⟨rfl, rfl, rfl, rfl, rfl, trivial⟩
        rintro mk4 _ wl10 ⟨t10_5, m13, m14, F, rfl, H⟩
        have R0 := H.ext
        replace F := cut_Proof_L6_s F
        obtain ⟨mk4, rfl, F⟩ := F
        generalize hrec6 : cut_Proof_L6 a0 mk4 = rec6 at F
        unfold cut_Proof_B6 at F
        refine CW.seq fun K26 hK26 => ?_
        refine CW.seq fun K27 hK27 => ?_
        refine CW.region ?_
        refine LW.pure rfl rfl (RV.move rfl) ?_
        refine LW.nil (hK27 _ _ ?_)
        by_cases hp6 : t10_5 = true
        ·
          replace F := ite_y hp6 F
          have hq6 : t10_5 = true := hp6
          refine CW.condT rfl hq6 ?_
          refine CW.skip (hK26 _ _ ?_)
          refine CW.block ?_
          refine CW.seq fun K28 hK28 => ?_
          refine CW.region ?_
          refine LW.pure rfl rfl (RV.assign rfl) ?_
          refine LW.nil (hK28 _ _ ?_)
          refine CW.seq fun K29 hK29 => ?_
          refine CW.region ?_
          refine LW.pure rfl rfl (RV.fieldAddr Tf24_0 rfl) ?_
          refine LW.pure rfl rfl (RV.load1 Tk22 rfl ((H.blk 2 rfl).cells.off 0) rfl) ?_
          refine LW.pure rfl rfl (RV.len Ts22 rfl) ?_
          refine LW.pure rfl rfl (RV.move rfl) ?_
          refine LW.nil (hK29 _ _ ?_)
          refine CW.block ?_
          refine CW.loop (fun meas ρ wl11 => ∃ (t10_4 : Bool) (t54_1 : Int) (m11 : List (Block × Int)) (m12 : List (Link × Int)), cut_Proof_L5 a0 rec6 meas t10_4 t54_1 m11 m12 = some res ∧ ρ = [(1, .pointer (some (⟨b1, 0, none⟩))), (2, .slice none 0 0), (3, .int .i64 0), (5, .pointer (some (⟨b4, 0, none⟩))), (10, .bool t10_4), (53, .int .i64 ((a0.worth.length : Int))), (54, .int .i64 t54_1)] ∧ Hp w wl11 [.mp b2 (encMap ekBlock ekI m11), .mp b3 (encMap ekLink ekI m12), .blk b1 24 [.slice A_a0_worth a0.worth.length c_a0_worth], .blk b4 98 [.slice A_a0_worth a0.worth.length c_a0_worth, .map (some b2), .map (some b3)]]) FU ⟨_, ?_, false, ((0 : Int)), m13, m14, F, rfl, H⟩ ?_
          · exact ⟨rfl, rfl, rfl, rfl, rfl, rfl, rfl, trivial⟩
          rintro mk5 _ wl11 ⟨t10_4, t54_1, m11, m12, F, rfl, H⟩
          have R0 := H.ext
          replace F := cut_Proof_L5_s F
          obtain ⟨mk5, rfl, F⟩ := F
          generalize hrec4 : cut_Proof_L5 a0 rec6 mk5 = rec4 at F
          unfold cut_Proof_B5 at F
          refine CW.seq fun K30 hK30 => ?_
          refine CW.region ?_
          refine LW.pure rfl rfl (RV.lss rfl rfl) ?_
          refine LW.nil (hK30 _ _ ?_)
          refine CW.seq fun K31 hK31 => ?_
          by_cases hp7 : t54_1 < ((a0.worth.length : Int))
          ·
            replace F := ite_y hp7 F
            have hq7 := dec_t hp7
            refine CW.condT rfl hq7 ?_
            refine CW.skip (hK31 _ _ ?_)
            refine CW.seqJ (fun ρ wl12 => (∃ (t10_1 : Bool) (m3 : List (Block × Int)) (m4 : List (Link × Int)), cut_Proof_k6 t54_1 rec4 t10_1 m3 m4 = some res ∧ ρ = [(1, .pointer (some (⟨b1, 0, none⟩))), (2, .slice none 0 0), (3, .int .i64 0), (5, .pointer (some (⟨b4, 0, none⟩))), (10, .bool t10_1), (53, .int .i64 ((a0.worth.length : Int))), (54, .int .i64 t54_1)] ∧ Hp w wl12 [.mp b2 (encMap ekBlock ekI m3), .mp b3 (encMap ekLink ekI m4), .blk b1 24 [.slice A_a0_worth a0.worth.length c_a0_worth], .blk b4 98 [.slice A_a0_worth a0.worth.length c_a0_worth, .map (some b2), .map (some b3)]])) ?_ ?_
            ·
              rintro _ wl12 ⟨t10_1, m3, m4, F, rfl, H⟩
              have R0 := H.ext
              unfold cut_Proof_k6 at F
              obtain ⟨hg8, F⟩ := gd_some F
              refine CW.region ?_
              refine LW.pure rfl rfl (RV.add rfl rfl hg8) ?_
              refine LW.pure rfl rfl (RV.move rfl) ?_
              refine LW.nil ?_
              subst hrec4
              refine ⟨mk5, Nat.lt_succ_self _, _, ?_, t10_1, (t54_1 + 1), m3, m4, F, rfl, H⟩
              exact ⟨rfl, rfl, rfl, rfl, rfl, rfl, rfl, trivial⟩
            ·
              intro K32 hK32 jK5567
              refine CW.block ?_
              refine CW.seq fun K33 hK33 => ?_
              refine CW.region ?_
              refine LW.pure rfl rfl (RV.move rfl) ?_
              refine LW.pure rfl rfl (RV.assign rfl) ?_
              refine LW.nil (hK33 _ _ ?_)
              refine CW.seq fun K34 hK34 => ?_
              obtain ⟨r2, hr2, F⟩ := bnd_some F
              refine CW.region ?_
              refine LW.pure rfl rfl (RV.loadA [.slice A_a0_worth a0.worth.length c_a0_worth] Tk24 rfl (H.blk 2 rfl).cells rfl rfl) ?_
              refine LW.go rfl rfl (OW.call Tc68 rfl (cut_depth_ok (a0 := a0) (h_a0_worth.ext R0) hr2) ?_)
              rintro _ w10 ⟨rfl, E3⟩
              refine ⟨_, rfl, ?_⟩
              replace H := H.grow E3
              replace R0 := H.ext
              refine LW.pure rfl rfl (RV.move rfl) ?_
              refine LW.nil (hK34 _ _ ?_)
              refine CW.block ?_
              refine CW.loop (fun meas ρ wl13 => ∃ (t10_3 : Bool) (t59_1 : Int) (m9 : List (Block × Int)) (m10 : List (Link × Int)), cut_Proof_L4 a0 t54_1 rec4 r2 meas t10_3 t59_1 m9 m10 = some res ∧ ρ = [(1, .pointer (some (⟨b1, 0, none⟩))), (2, .slice none 0 0), (3, .int .i64 0), (5, .pointer (some (⟨b4, 0, none⟩))), (10, .bool t10_3), (11, .int .i64 t54_1), (53, .int .i64 ((a0.worth.length : Int))), (54, .int .i64 t54_1), (58, .int .i64 r2), (59, .int .i64 t59_1)] ∧ Hp w wl13 [.mp b2 (encMap ekBlock ekI m9), .mp b3 (encMap ekLink ekI m10), .blk b1 24 [.slice A_a0_worth a0.worth.length c_a0_worth], .blk b4 98 [.slice A_a0_worth a0.worth.length c_a0_worth, .map (some b2), .map (some b3)]]) FU ⟨_, ?_, t10_4, ((0 : Int)), m11, m12, F, rfl, H⟩ ?_
              · exact ⟨rfl, rfl, rfl, rfl, rfl, rfl, rfl, rfl, rfl, rfl, trivial⟩
              rintro mk6 _ wl13 ⟨t10_3, t59_1, m9, m10, F, rfl, H⟩
              have R0 := H.ext
              replace F := cut_Proof_L4_s F
              obtain ⟨mk6, rfl, F⟩ := F
              generalize hrec5 : cut_Proof_L4 a0 t54_1 rec4 r2 mk6 = rec5 at F
              unfold cut_Proof_B4 at F
              refine CW.seq fun K35 hK35 => ?_
              refine CW.region ?_
              refine LW.pure rfl rfl (RV.lss rfl rfl) ?_
              refine LW.nil (hK35 _ _ ?_)
              refine CW.seq fun K36 hK36 => ?_
              by_cases hp8 : t59_1 < r2
              ·
                replace F := ite_y hp8 F
                have hq8 := dec_t hp8
                refine CW.condT rfl hq8 ?_
                refine CW.skip (hK36 _ _ ?_)
                refine CW.seqJ (fun ρ wl14 => (∃ (t10_2 : Bool) (m5 : List (Block × Int)) (m6 : List (Link × Int)), cut_Proof_k7 t59_1 rec5 t10_2 m5 m6 = some res ∧ ρ = [(1, .pointer (some (⟨b1, 0, none⟩))), (2, .slice none 0 0), (3, .int .i64 0), (5, .pointer (some (⟨b4, 0, none⟩))), (10, .bool t10_2), (11, .int .i64 t54_1), (53, .int .i64 ((a0.worth.length : Int))), (54, .int .i64 t54_1), (58, .int .i64 r2), (59, .int .i64 t59_1)] ∧ Hp w wl14 [.mp b2 (encMap ekBlock ekI m5), .mp b3 (encMap ekLink ekI m6), .blk b1 24 [.slice A_a0_worth a0.worth.length c_a0_worth], .blk b4 98 [.slice A_a0_worth a0.worth.length c_a0_worth, .map (some b2), .map (some b3)]])) ?_ ?_
                ·
                  rintro _ wl14 ⟨t10_2, m5, m6, F, rfl, H⟩
                  have R0 := H.ext
                  unfold cut_Proof_k7 at F
                  obtain ⟨hg9, F⟩ := gd_some F
                  refine CW.region ?_
                  refine LW.pure rfl rfl (RV.add rfl rfl hg9) ?_
                  refine LW.pure rfl rfl (RV.move rfl) ?_
                  refine LW.nil ?_
                  subst hrec5
                  refine ⟨mk6, Nat.lt_succ_self _, _, ?_, t10_2, (t59_1 + 1), m5, m6, F, rfl, H⟩
                  exact ⟨rfl, rfl, rfl, rfl, rfl, rfl, rfl, rfl, rfl, rfl, trivial⟩
                ·
                  intro K37 hK37 jK5588
                  refine CW.block ?_
                  refine CW.seq fun K38 hK38 => ?_
                  refine CW.region ?_
                  refine LW.pure rfl rfl (RV.move rfl) ?_
                  refine LW.pure rfl rfl (RV.assign rfl) ?_
                  refine LW.nil (hK38 _ _ ?_)
                  refine CW.seqJ (fun ρ wl15 => (∃ (t75_1 : Bool) (m7 : List (Block × Int)) (m8 : List (Link × Int)), cut_Proof_k8 t10_3 t59_1 rec5 t75_1 m7 m8 = some res ∧ ρ = [(1, .pointer (some (⟨b1, 0, none⟩))), (2, .slice none 0 0), (3, .int .i64 0), (5, .pointer (some (⟨b4, 0, none⟩))), (10, .bool t10_3), (11, .int .i64 t54_1), (53, .int .i64 ((a0.worth.length : Int))), (54, .int .i64 t54_1), (58, .int .i64 r2), (59, .int .i64 t59_1), (75, .bool t75_1)] ∧ Hp w wl15 [.mp b2 (encMap ekBlock ekI m7), .mp b3 (encMap ekLink ekI m8), .blk b1 24 [.slice A_a0_worth a0.worth.length c_a0_worth], .blk b4 98 [.slice A_a0_worth a0.worth.length c_a0_worth, .map (some b2), .map (some b3)]])) ?_ ?_
                  ·
                    rintro _ wl15 ⟨t75_1, m7, m8, F, rfl, H⟩
                    have R0 := H.ext
                    unfold cut_Proof_k8 at F
                    by_cases hp9 : t75_1 = true
                    ·
                      replace F := ite_y hp9 F
                      have hq9 : t75_1 = true := hp9
                      refine CW.condT rfl hq9 ?_
                      refine CW.region ?_
                      refine LW.pure rfl rfl (RV.assign rfl) ?_
                      refine LW.nil (jK5588 _ _ ⟨_, ?_, ⟨true, m7, m8, F, rfl, H⟩⟩)
                      exact ⟨rfl, rfl, rfl, rfl, rfl, rfl, rfl, rfl, rfl, rfl, trivial⟩
                    ·
                      replace F := ite_n hp9 F
                      have hq9 : t75_1 = false := raw_f hp9
                      refine CW.condF rfl hq9 ?_
                      refine CW.skip (jK5588 _ _ ⟨_, ?_, ⟨t10_3, m7, m8, F, rfl, H⟩⟩)
                      exact ⟨rfl, rfl, rfl, rfl, rfl, rfl, rfl, rfl, rfl, rfl, trivial⟩
                  ·
                    intro K39 hK39 jK5590
                    by_cases hp10 : (0 : Int) < ((mget eqBlock m9 ((⟨t54_1, t59_1⟩ : Block))).getD 0)
                    ·
                      replace F := ite_y hp10 F
                      have hq10 := dec_t hp10
                      obtain ⟨r3, hr3, F⟩ := bnd_some F
                      refine CW.region ?_
                      refine LW.pure rfl rfl (RV.fieldAddr Tf98_1 rfl) ?_
                      refine LW.pure rfl rfl (RV.load1 Tk90 rfl ((H.blk 3 rfl).cells.off 1) rfl) ?_
                      refine LW.pure rfl rfl (RV.move rfl) ?_
                      refine LW.pure rfl rfl (RV.move rfl) ?_
                      refine LW.pure rfl rfl (RV.build (vs := [.int .i64 t54_1, .int .i64 t59_1]) (cs := [.int .i64 t54_1, .int .i64 t59_1]) rfl (fun _ => by kernel_rfl)) ?_
                      refine LW.pure rfl rfl (RV.lookupM (ek := ekBlock) (ev' := ekI) (eq := eqBlock) (m := m9) ((⟨t54_1, t59_1⟩ : Block)) 0 KO92 Tm90 Tz3 rfl rfl (H.mp 0 rfl)) ?_
                      refine LW.pure rfl rfl (RV.gtr rfl rfl) ?_
                      refine LW.pure rfl rfl (RV.move rfl) ?_
                      refine LW.pureYB rfl rfl rfl rfl hq10 (RV.loadA [.slice A_a0_worth a0.worth.length c_a0_worth, .map (some b2), .map (some b3)] Tk98 rfl (H.blk 3 rfl).cells rfl rfl) ?_
                      refine LW.pureYB rfl rfl rfl rfl hq10 (RV.move rfl) ?_
                      refine LW.pureYB rfl rfl rfl rfl hq10 (RV.move rfl) ?_
                      refine LW.pureYB rfl rfl rfl rfl hq10 (RV.build (vs := [.int .i64 t54_1, .int .i64 t59_1]) (cs := [.int .i64 t54_1, .int .i64 t59_1]) rfl (fun _ => by kernel_rfl)) ?_
                      replace H := H.pick (L' := [.mp b2 (encMap ekBlock ekI m9), .mp b3 (encMap ekLink ekI m10), .blk b1 24 [.slice A_a0_worth a0.worth.length c_a0_worth], .blk b4 98 [.slice A_a0_worth a0.worth.length c_a0_worth, .map (some b2), .map (some b3)]]) [0, 1, 2, 3] (by decide) rfl
                      replace R0 := H.ext
                      refine LW.yesB rfl rfl rfl rfl hq10 (OW.call Tc95 rfl (cut_payer_pay_ok (a0 := (⟨a0, m9, m10⟩ : Payer)) (a1 := (⟨t54_1, t59_1⟩ : Block)) (R := [.blk b1 24 [.slice A_a0_worth a0.worth.length c_a0_worth], .blk b4 98 [.slice A_a0_worth a0.worth.length c_a0_worth, .map (some b2), .map (some b3)]]) h_a0_worth H hr3) ?_)
                      rintro _ w11 ⟨rfl, Hq1⟩
                      refine ⟨_, rfl, ?_⟩
                      replace H : Hp w w11 [.mp b2 (encMap ekBlock ekI r3.2.1), .mp b3 (encMap ekLink ekI r3.2.2), .blk b1 24 [.slice A_a0_worth a0.worth.length c_a0_worth], .blk b4 98 [.slice A_a0_worth a0.worth.length c_a0_worth, .map (some b2), .map (some b3)]] := Hq1
                      replace R0 := H.ext
                      refine LW.pure rfl rfl (RV.pickTB rfl hq10 rfl) ?_
                      refine LW.nil (jK5590 _ _ ⟨_, ?_, ⟨r3.1, r3.2.1, r3.2.2, F, rfl, H⟩⟩)
                      exact ⟨rfl, rfl, rfl, rfl, rfl, rfl, rfl, rfl, rfl, rfl, rfl, trivial⟩
                    ·
                      replace F := ite_n hp10 F
                      have hq10 := dec_f hp10
                      refine CW.region ?_
                      refine LW.pure rfl rfl (RV.fieldAddr Tf98_1 rfl) ?_
                      refine LW.pure rfl rfl (RV.load1 Tk90 rfl ((H.blk 3 rfl).cells.off 1) rfl) ?_
                      refine LW.pure rfl rfl (RV.move rfl) ?_
                      refine LW.pure rfl rfl (RV.move rfl) ?_
                      refine LW.pure rfl rfl (RV.build (vs := [.int .i64 t54_1, .int .i64 t59_1]) (cs := [.int .i64 t54_1, .int .i64 t59_1]) rfl (fun _ => by kernel_rfl)) ?_
                      refine LW.pure rfl rfl (RV.lookupM (ek := ekBlock) (ev' := ekI) (eq := eqBlock) (m := m9) ((⟨t54_1, t59_1⟩ : Block)) 0 KO92 Tm90 Tz3 rfl rfl (H.mp 0 rfl)) ?_
                      refine LW.pure rfl rfl (RV.gtr rfl rfl) ?_
                      refine LW.pure rfl rfl (RV.move rfl) ?_
                      refine LW.noB rfl rfl rfl rfl (ne_beq (v := false) hq10 rfl) ?_
                      refine LW.noB rfl rfl rfl rfl (ne_beq (v := false) hq10 rfl) ?_
                      refine LW.noB rfl rfl rfl rfl (ne_beq (v := false) hq10 rfl) ?_
                      refine LW.noB rfl rfl rfl rfl (ne_beq (v := false) hq10 rfl) ?_
                      refine LW.noB rfl rfl rfl rfl (ne_beq (v := false) hq10 rfl) ?_
                      refine LW.pure rfl rfl (RV.pickFB rfl hq10 rfl) ?_
                      refine LW.nil (jK5590 _ _ ⟨_, ?_, ⟨false, m9, m10, F, rfl, H⟩⟩)
                      exact ⟨rfl, rfl, rfl, rfl, rfl, rfl, rfl, rfl, rfl, rfl, rfl, trivial⟩
              ·
                replace F := ite_n hp8 F
                have hq8 := dec_f hp8
                refine CW.condF rfl hq8 ?_
                refine CW.exit (jK5567 _ _ ⟨_, ?_, ⟨t10_3, m9, m10, F, rfl, H⟩⟩)
                exact ⟨rfl, rfl, rfl, rfl, rfl, rfl, rfl, trivial⟩
          ·
            replace F := ite_n hp7 F
            have hq7 := dec_f hp7
            refine CW.condF rfl hq7 ?_
            refine CW.exit ?_
            subst hrec6
            refine ⟨mk4, Nat.lt_succ_self _, _, ?_, t10_4, m11, m12, F, rfl, H⟩
            exact ⟨rfl, rfl, rfl, rfl, rfl, trivial⟩
        ·
          replace F := ite_n hp6 F
          have hq6 : t10_5 = false := raw_f hp6
          refine CW.condF rfl hq6 ?_
          refine CW.exit (jK5136 _ _ ⟨_, ?_, ⟨m13, m14, F, rfl, H⟩⟩)
          exact ⟨rfl, rfl, rfl, rfl, trivial⟩
    ·
      intro K40 hK40 jK5591
      refine CW.seq fun K41 hK41 => ?_
      refine CW.region ?_
      refine LW.pure rfl rfl (RV.fieldAddr Tf24_0 rfl) ?_
      refine LW.pure rfl rfl (RV.load1 Tk22 rfl ((H.blk 3 rfl).cells.off 0) rfl) ?_
      refine LW.pure rfl rfl (RV.len Ts22 rfl) ?_
      refine LW.pure rfl rfl (RV.move rfl) ?_
      refine LW.nil (hK41 _ _ ?_)
      refine CW.block ?_
      replace H := H.pick (L' := [.mp b2 (encMap ekBlock ekI (([] : List (Block × Int)))), .mp b3 (encMap ekLink ekI (([] : List (Link × Int)))), .blk b1 24 [.slice A_a0_worth a0.worth.length c_a0_worth], .blk b4 98 [.slice A_a0_worth a0.worth.length c_a0_worth, .map (some b2), .map (some b3)]]) [2, 1, 3, 0] (by decide) rfl
      replace R0 := H.ext
      refine CW.loop (fun meas ρ wl16 => ∃ (t30_1 : Int) (m18 : List (Block × Int)), cut_Proof_L8 a0 meas t30_1 m18 = some res ∧ ρ = [(1, .pointer (some (⟨b1, 0, none⟩))), (2, .slice none 0 0), (3, .int .i64 0), (5, .pointer (some (⟨b4, 0, none⟩))), (28, .slice A_a0_worth a0.worth.length c_a0_worth), (29, .int .i64 ((a0.worth.length : Int))), (30, .int .i64 t30_1)] ∧ Hp w wl16 [.mp b2 (encMap ekBlock ekI m18), .mp b3 (encMap ekLink ekI (([] : List (Link × Int)))), .blk b1 24 [.slice A_a0_worth a0.worth.length c_a0_worth], .blk b4 98 [.slice A_a0_worth a0.worth.length c_a0_worth, .map (some b2), .map (some b3)]]) FU ⟨_, ?_, ((0 : Int)), (([] : List (Block × Int))), F, rfl, H⟩ ?_
      · exact ⟨rfl, rfl, rfl, rfl, rfl, rfl, rfl, trivial⟩
      rintro mk7 _ wl16 ⟨t30_1, m18, F, rfl, H⟩
      have R0 := H.ext
      replace F := cut_Proof_L8_s F
      obtain ⟨mk7, rfl, F⟩ := F
      generalize hrec7 : cut_Proof_L8 a0 mk7 = rec7 at F
      unfold cut_Proof_B8 at F
      refine CW.seq fun K42 hK42 => ?_
      refine CW.region ?_
      refine LW.pure rfl rfl (RV.lss rfl rfl) ?_
      refine LW.nil (hK42 _ _ ?_)
      refine CW.seq fun K43 hK43 => ?_
      by_cases hp11 : t30_1 < ((a0.worth.length : Int))
      ·
        replace F := ite_y hp11 F
        have hq11 := dec_t hp11
        refine CW.condT rfl hq11 ?_
        refine CW.skip (hK43 _ _ ?_)
        refine CW.seqJ (fun ρ wl17 => (∃ (m16 : List (Block × Int)), cut_Proof_k10 t30_1 rec7 m16 = some res ∧ ρ = [(1, .pointer (some (⟨b1, 0, none⟩))), (2, .slice none 0 0), (3, .int .i64 0), (5, .pointer (some (⟨b4, 0, none⟩))), (28, .slice A_a0_worth a0.worth.length c_a0_worth), (29, .int .i64 ((a0.worth.length : Int))), (30, .int .i64 t30_1)] ∧ Hp w wl17 [.mp b2 (encMap ekBlock ekI m16), .mp b3 (encMap ekLink ekI (([] : List (Link × Int)))), .blk b1 24 [.slice A_a0_worth a0.worth.length c_a0_worth], .blk b4 98 [.slice A_a0_worth a0.worth.length c_a0_worth, .map (some b2), .map (some b3)]])) ?_ ?_
        ·
          rintro _ wl17 ⟨m16, F, rfl, H⟩
          have R0 := H.ext
          unfold cut_Proof_k10 at F
          obtain ⟨hg10, F⟩ := gd_some F
          refine CW.region ?_
          refine LW.pure rfl rfl (RV.add rfl rfl hg10) ?_
          refine LW.pure rfl rfl (RV.move rfl) ?_
          refine LW.nil ?_
          subst hrec7
          refine ⟨mk7, Nat.lt_succ_self _, _, ?_, (t30_1 + 1), m16, F, rfl, H⟩
          exact ⟨rfl, rfl, rfl, rfl, rfl, rfl, rfl, trivial⟩
        ·
          intro K44 hK44 jK5671
          refine CW.block ?_
          refine CW.seq fun K45 hK45 => ?_
          obtain ⟨x1, hbx1, hx1, F⟩ := ix_some F
          refine CW.region ?_
          refine LW.pure rfl rfl (RV.move rfl) ?_
          obtain ⟨A3, c3, hC1, hS1⟩ := h_a0_worth.at_ hx1
          refine LW.pure rfl rfl (RV.indexAddr Ts22 rfl rfl hbx1 (h_a0_worth.addr hbx1)) ?_
          refine LW.pure rfl rfl (RV.load1 Tk25 rfl (hC1.ext R0) rfl) ?_
          refine LW.pure rfl rfl (RV.assign rfl) ?_
          refine LW.pure rfl rfl (RV.assign rfl) ?_
          refine LW.nil (hK45 _ _ ?_)
          refine CW.seq fun K46 hK46 => ?_
          refine CW.region ?_
          refine LW.pure rfl rfl (RV.move rfl) ?_
          refine LW.pure rfl rfl (RV.len Ts25 rfl) ?_
          refine LW.pure rfl rfl (RV.move rfl) ?_
          refine LW.nil (hK46 _ _ ?_)
          refine CW.block ?_
          refine CW.loop (fun meas ρ wl18 => ∃ (t37_1 : Int) (m17 : List (Block × Int)), cut_Proof_L7 t30_1 rec7 x1 meas t37_1 m17 = some res ∧ ρ = [(1, .pointer (some (⟨b1, 0, none⟩))), (2, .slice none 0 0), (3, .int .i64 0), (5, .pointer (some (⟨b4, 0, none⟩))), (6, .int .i64 t30_1), (28, .slice A_a0_worth a0.worth.length c_a0_worth), (29, .int .i64 ((a0.worth.length : Int))), (30, .int .i64 t30_1), (35, .slice A3 x1.length c3), (36, .int .i64 ((x1.length : Int))), (37, .int .i64 t37_1)] ∧ Hp w wl18 [.mp b2 (encMap ekBlock ekI m17), .mp b3 (encMap ekLink ekI (([] : List (Link × Int)))), .blk b1 24 [.slice A_a0_worth a0.worth.length c_a0_worth], .blk b4 98 [.slice A_a0_worth a0.worth.length c_a0_worth, .map (some b2), .map (some b3)]]) FU ⟨_, ?_, ((0 : Int)), m18, F, rfl, H⟩ ?_
          · exact ⟨rfl, rfl, rfl, rfl, rfl, rfl, rfl, rfl, rfl, rfl, rfl, trivial⟩
          rintro mk8 _ wl18 ⟨t37_1, m17, F, rfl, H⟩
          have R0 := H.ext
          replace F := cut_Proof_L7_s F
          obtain ⟨mk8, rfl, F⟩ := F
          generalize hrec8 : cut_Proof_L7 t30_1 rec7 x1 mk8 = rec8 at F
          unfold cut_Proof_B7 at F
          refine CW.seq fun K47 hK47 => ?_
          refine CW.region ?_
          refine LW.pure rfl rfl (RV.lss rfl rfl) ?_
          refine LW.nil (hK47 _ _ ?_)
          refine CW.seq fun K48 hK48 => ?_
          by_cases hp12 : t37_1 < ((x1.length : Int))
          ·
            replace F := ite_y hp12 F
            have hq12 := dec_t hp12
            refine CW.condT rfl hq12 ?_
            refine CW.skip (hK48 _ _ ?_)
            refine CW.seq fun K49 hK49 => ?_
            refine CW.block ?_
            refine CW.seq fun K50 hK50 => ?_
            obtain ⟨x2, hbx2, hx2, F⟩ := ix_some F
            refine CW.region ?_
            refine LW.pure rfl rfl (RV.move rfl) ?_
            refine LW.pure rfl rfl (RV.indexAddr Ts25 rfl rfl hbx2 (hS1.addr_ hx2)) ?_
            refine LW.pure rfl rfl (RV.load1 Tk3 rfl ((hS1.at_ hx2).ext R0) rfl) ?_
            refine LW.pure rfl rfl (RV.assign rfl) ?_
            refine LW.pure rfl rfl (RV.assign rfl) ?_
            refine LW.nil (hK50 _ _ ?_)
            refine CW.region ?_
            refine LW.pure rfl rfl (RV.fieldAddr Tf98_1 rfl) ?_
            refine LW.pure rfl rfl (RV.load1 Tk90 rfl ((H.blk 3 rfl).cells.off 1) rfl) ?_
            refine LW.pure rfl rfl (RV.move rfl) ?_
            refine LW.pure rfl rfl (RV.move rfl) ?_
            refine LW.pure rfl rfl (RV.build (vs := [.int .i64 t30_1, .int .i64 t37_1]) (cs := [.int .i64 t30_1, .int .i64 t37_1]) rfl (fun _ => by kernel_rfl)) ?_
            refine LW.pure rfl rfl (RV.move rfl) ?_
            refine LW.go rfl rfl (OW.updateM (ek := ekBlock) (ev' := ekI) (eq := eqBlock) (m := m17) ((⟨t30_1, t37_1⟩ : Block)) x2 KO92 Tm90 rfl rfl rfl (H.mp 0 rfl) fun w12 M4 O2 => ?_)
            replace H : Hp w w12 [.mp b2 (encMap ekBlock ekI ((mset eqBlock m17 ((⟨t30_1, t37_1⟩ : Block)) x2))), .mp b3 (encMap ekLink ekI (([] : List (Link × Int)))), .blk b1 24 [.slice A_a0_worth a0.worth.length c_a0_worth], .blk b4 98 [.slice A_a0_worth a0.worth.length c_a0_worth, .map (some b2), .map (some b3)]] := H.setM 0 rfl M4 O2
            replace R0 := H.ext
            refine LW.nil (hK49 _ _ ?_)
            obtain ⟨hg11, F⟩ := gd_some F
            refine CW.region ?_
            refine LW.pure rfl rfl (RV.add rfl rfl hg11) ?_
            refine LW.pure rfl rfl (RV.move rfl) ?_
            refine LW.nil ?_
            subst hrec8
            refine ⟨mk8, Nat.lt_succ_self _, _, ?_, (t37_1 + 1), ((mset eqBlock m17 ((⟨t30_1, t37_1⟩ : Block)) x2)), F, rfl, H⟩
            exact ⟨rfl, rfl, rfl, rfl, rfl, rfl, rfl, rfl, rfl, rfl, rfl, trivial⟩
          ·
            replace F := ite_n hp12 F
            have hq12 := dec_f hp12
            refine CW.condF rfl hq12 ?_
            refine CW.exit (jK5671 _ _ ⟨_, ?_, ⟨m17, F, rfl, H⟩⟩)
            exact ⟨rfl, rfl, rfl, rfl, rfl, rfl, rfl, trivial⟩
      ·
        replace F := ite_n hp11 F
        have hq11 := dec_f hp11
        refine CW.condF rfl hq11 ?_
        refine CW.exit (jK5591 _ _ ⟨_, ?_, ⟨m18, F, rfl, H⟩⟩)
        exact ⟨rfl, rfl, rfl, rfl, trivial⟩
  ·
    replace F := ite_n hp1 F
    have hq1 := dec_f hp1
    refine CW.condT rfl (not_t hq1) ?_
    refine CW.seq fun K51 hK51 => ?_
    refine CW.region ?_
    refine LW.pure rfl rfl (RV.move rfl) ?_
    refine LW.pure rfl rfl (RV.assign rfl) ?_
    refine LW.pure rfl rfl (RV.assign rfl) ?_
    refine LW.nil (hK51 _ _ ?_)
    refine CW.ret ?_
    obtain rfl := Option.some.inj F
    refine ⟨_, (ResOK.two rfl rfl), ?_⟩
    replace H := H.nilOwn 94 4
    replace R0 := H.ext
    replace H := H.pick (L' := [.own none 0 94 4 (List.map encPass (([] : List Pass)))]) [0] (by decide) rfl
    replace R0 := H.ext
    exact ⟨none, 0, (by first | rfl | (simp; done) | (simp; omega)), H⟩
end Go.D4
