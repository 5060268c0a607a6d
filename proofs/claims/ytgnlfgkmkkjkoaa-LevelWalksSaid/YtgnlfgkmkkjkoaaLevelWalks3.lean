/- Lemmas and walks that the proof of this claim uses: D1m3, D1m4, D1m5. -/
import Derived.Test.YtgnlfgkmkkjkoaaLevelWalks2
set_option linter.unusedVariables false
set_option linter.unusedSimpArgs false
namespace Go.D1
open Go.Tb Go.Proofs Go.RowKit
theorem Tc73 : callable Try.prog 73 = true := by kernel_rfl
theorem Tc78 : callable Try.prog 78 = true := by kernel_rfl
theorem Tc80 : callable Try.prog 80 = true := by kernel_rfl
theorem Tf28_1 : tyF Try.prog 28 1 = some 1 := by kernel_rfl
theorem Tk28 : tyK Try.prog 28 = some (true, 2) := by kernel_rfl
theorem Tz28 : tyZ Try.prog 28 = some (.agg #[.int .i64 0, .int .i64 0]) := by kernel_rfl
set_option maxRecDepth 20000 in
set_option maxHeartbeats 1000000 in
theorem level_gcd_ok {a0 : Int} {a1 : Int} {w : World} {res : Int} (F : level_gcd a0 a1 = some res) : Calls Try.prog 78 #[.int .i64 a0, .int .i64 a1] w (Rt w (.int .i64 res)) := by
  refine calls_of_cw (args := [.int .i64 a0, .int .i64 a1]) Try.func78 rfl rfl rfl rfl ?_
  have H := Hp.start w
  have R0 := H.ext
  unfold level_gcd at F
  refine CW.seq fun K1 hK1 => ?_
  refine CW.region ?_
  refine LW.pure rfl rfl (RV.assign rfl) ?_
  refine LW.nil (hK1 _ _ ?_)
  refine CW.seqJ (fun ρ wl1 => (∃ (t0_1 : Int), level_gcd_k1 t0_1 = some res ∧ ρ = [(0, .int .i64 t0_1), (4, .int .i64 0)] ∧ Hp w wl1 [])) ?_ ?_
  ·
    rintro _ wl1 ⟨t0_1, F, rfl, H⟩
    have R0 := H.ext
    unfold level_gcd_k1 at F
    refine CW.seq fun K2 hK2 => ?_
    obtain ⟨hg1, F⟩ := gd_some F
    refine CW.region ?_
    refine LW.pure rfl rfl (RV.move rfl) ?_
    refine LW.pure rfl rfl (RV.move rfl) ?_
    refine LW.pure rfl rfl (RV.neg rfl hg1) ?_
    refine LW.pure rfl rfl (RV.max2 rfl rfl) ?_
    refine LW.pure rfl rfl (RV.assign rfl) ?_
    refine LW.nil (hK2 _ _ ?_)
    refine CW.ret ?_
    obtain rfl := Option.some.inj F
    refine ⟨_, (ResOK.one rfl), ?_⟩
    refine ⟨(by first | rfl | simp), R0⟩
  ·
    intro K3 hK3 jK24
    refine CW.block ?_
    refine CW.loop (fun meas ρ wl2 => ∃ (t0_2 : Int) (t1_1 : Int), level_gcd_L1 meas t0_2 t1_1 = some res ∧ ρ = [(0, .int .i64 t0_2), (1, .int .i64 t1_1), (4, .int .i64 0)] ∧ Hp w wl2 []) FU ⟨_, ?_, a0, a1, F, rfl, H⟩ ?_
    · exact ⟨rfl, rfl, rfl, trivial⟩
    rintro mk1 _ wl2 ⟨t0_2, t1_1, F, rfl, H⟩
    have R0 := H.ext
    replace F := level_gcd_L1_s F
    obtain ⟨mk1, rfl, F⟩ := F
    generalize hrec1 : level_gcd_L1 mk1 = rec1 at F
    unfold level_gcd_B1 at F
    refine CW.seq fun K4 hK4 => ?_
    refine CW.seq fun K5 hK5 => ?_
    refine CW.region ?_
    refine LW.pure rfl rfl (RV.move rfl) ?_
    refine LW.pure rfl rfl (RV.nei rfl rfl) ?_
    refine LW.nil (hK5 _ _ ?_)
    by_cases hp1 : t1_1 = 0
    ·
      replace F := ite_y hp1 F
      have hq1 := dec_t hp1
      refine CW.condF rfl (not_f hq1) ?_
      refine CW.exit (jK24 _ _ ⟨_, ?_, ⟨t0_2, F, rfl, H⟩⟩)
      exact ⟨rfl, rfl, trivial⟩
    ·
      replace F := ite_n hp1 F
      have hq1 := dec_f hp1
      refine CW.condT rfl (not_t hq1) ?_
      refine CW.skip (hK4 _ _ ?_)
      refine CW.block ?_
      obtain ⟨hg2, F⟩ := gd_some F
      refine CW.draw [] (fun _ => True) (.cons 0 1 (.cons 1 1 (.cons 2 1 (.cons 3 1 (.cons 4 1 (.cons 5 1 .nil)))))) mixed (by kernel_rfl) fun w1 E1 => ?_
      replace H := H.grow E1
      replace R0 := H.ext
      refine DW.fix rfl rfl rfl (fun _ EQ => RV.move rfl) ?_
      refine DW.fix rfl rfl rfl (fun _ EQ => RV.move rfl) ?_
      refine DW.fix rfl rfl rfl (fun _ EQ => RV.move rfl) ?_
      refine DW.fix rfl rfl rfl (fun _ EQ => RV.rem rfl rfl hg2) ?_
      refine DW.fix rfl rfl rfl (fun _ EQ => RV.assign rfl) ?_
      refine DW.fix rfl rfl rfl (fun _ EQ => RV.assign rfl) ?_
      refine DW.nil ?_
      subst hrec1
      refine ⟨mk1, Nat.lt_succ_self _, _, ?_, t1_1, (Int.tmod t0_2 t1_1), F, rfl, H⟩
      exact ⟨rfl, rfl, rfl, trivial⟩
set_option maxRecDepth 20000 in
set_option maxHeartbeats 1000000 in
theorem level_ratio_ok {a0 : Int} {a1 : Int} {w : World} {res : Rat} (F : level_ratio a0 a1 = some res) : Calls Try.prog 80 #[.int .i64 a0, .int .i64 a1] w (Rt w (.agg #[.int .i64 res.num, .int .i64 res.den])) := by
  refine calls_of_cw (args := [.int .i64 a0, .int .i64 a1]) Try.func80 rfl rfl rfl rfl ?_
  have H := Hp.start w
  have R0 := H.ext
  unfold level_ratio at F
  refine CW.seq fun K1 hK1 => ?_
  refine CW.region ?_
  refine LW.go rfl rfl (OW.alloc Tz28 fun b1 w1 N1 => ?_)
  replace H := H.new N1 N1.blk
  replace R0 := H.ext
  refine LW.nil (hK1 _ _ ?_)
  refine CW.seq fun K2 hK2 => ?_
  obtain ⟨r1, hr1, F⟩ := bnd_some F
  refine CW.region ?_
  refine LW.pure rfl rfl (RV.move rfl) ?_
  refine LW.pure rfl rfl (RV.move rfl) ?_
  refine LW.go rfl rfl (OW.call Tc78 rfl (level_gcd_ok (a0 := a0) (a1 := a1) hr1) ?_)
  rintro _ w2 ⟨rfl, E1⟩
  refine ⟨_, rfl, ?_⟩
  replace H := H.grow E1
  replace R0 := H.ext
  refine LW.pure rfl rfl (RV.assign rfl) ?_
  refine LW.nil (hK2 _ _ ?_)
  refine CW.seqJ (fun ρ wl1 => (∃ (t5_1 : Int), level_ratio_k1 a0 a1 t5_1 = some res ∧ ρ = [(0, .int .i64 a0), (1, .int .i64 a1), (4, .pointer (some (⟨b1, 0, none⟩))), (5, .int .i64 t5_1)] ∧ Hp w wl1 [.blk b1 28 [.int .i64 0, .int .i64 0]])) ?_ ?_
  ·
    rintro _ wl1 ⟨t5_1, F, rfl, H⟩
    have R0 := H.ext
    unfold level_ratio_k1 at F
    refine CW.seq fun K3 hK3 => ?_
    obtain ⟨hg1, F⟩ := gd_some F
    obtain ⟨hg2, F⟩ := gd_some F
    refine CW.draw [7] (fun _ => True) (.cons 0 1 (.cons 1 1 (.cons 2 1 (.cons 3 1 (.cons 4 1 (.cons 5 1 (.cons 6 1 (.cons 7 0 .nil)))))))) mixed (by kernel_rfl) fun w3 E2 => ?_
    replace H := H.grow E2
    replace R0 := H.ext
    refine DW.fix rfl rfl rfl (fun _ EQ => RV.move rfl) ?_
    refine DW.fix rfl rfl rfl (fun _ EQ => RV.move rfl) ?_
    refine DW.fix rfl rfl rfl (fun _ EQ => RV.quo rfl rfl hg1) ?_
    refine DW.fix rfl rfl rfl (fun _ EQ => RV.move rfl) ?_
    refine DW.fix rfl rfl rfl (fun _ EQ => RV.move rfl) ?_
    refine DW.fix rfl rfl rfl (fun _ EQ => RV.quo rfl rfl hg2) ?_
    refine DW.fix rfl rfl rfl (fun _ EQ => RV.build (vs := [.int .i64 (Int.tdiv a0 t5_1), .int .i64 (Int.tdiv a1 t5_1)]) (cs := [.int .i64 (Int.tdiv a0 t5_1), .int .i64 (Int.tdiv a1 t5_1)]) rfl (fun _ => by kernel_rfl)) ?_
    refine DW.sole rfl rfl rfl (OW.store Tk28 rfl rfl (H.blk 0 rfl) (off := 0) (vs := [.int .i64 (Int.tdiv a0 t5_1), .int .i64 (Int.tdiv a1 t5_1)]) rfl rfl rfl rfl rfl fun w4 S1 => ?_)
    refine ⟨fun h => absurd h (by decide), S1.modx trivial, ?_⟩
    replace H : Hp w w4 [.blk b1 28 [.int .i64 (Int.tdiv a0 t5_1), .int .i64 (Int.tdiv a1 t5_1)]] := H.stored 0 rfl S1
    replace R0 := H.ext
    refine DW.nil (hK3 _ _ ?_)
    refine CW.ret ?_
    obtain rfl := Option.some.inj F
    refine ⟨_, (ResOK.cell1 ⟨_, rfl, run_loadVar_agg Tk28 (H.blk 0 rfl).cells (us := [.int .i64 (Int.tdiv a0 t5_1), .int .i64 (Int.tdiv a1 t5_1)]) rfl rfl⟩), ?_⟩
    refine ⟨(by first | rfl | simp), R0⟩
  ·
    intro K4 hK4 jK11
    refine CW.seq fun K5 hK5 => ?_
    refine CW.region ?_
    refine LW.pure rfl rfl (RV.move rfl) ?_
    refine LW.pure rfl rfl (RV.lss rfl rfl) ?_
    refine LW.nil (hK5 _ _ ?_)
    by_cases hp1 : a1 < 0
    ·
      replace F := ite_y hp1 F
      have hq1 := dec_t hp1
      refine CW.condT rfl hq1 ?_
      obtain ⟨hg3, F⟩ := gd_some F
      refine CW.region ?_
      refine LW.pure rfl rfl (RV.move rfl) ?_
      refine LW.pure rfl rfl (RV.neg rfl hg3) ?_
      refine LW.pure rfl rfl (RV.assign rfl) ?_
      refine LW.nil (jK11 _ _ ⟨_, ?_, ⟨(-r1), F, rfl, H⟩⟩)
      exact ⟨rfl, rfl, rfl, rfl, trivial⟩
    ·
      replace F := ite_n hp1 F
      have hq1 := dec_f hp1
      refine CW.condF rfl hq1 ?_
      refine CW.skip (jK11 _ _ ⟨_, ?_, ⟨r1, F, rfl, H⟩⟩)
      exact ⟨rfl, rfl, rfl, rfl, trivial⟩
set_option maxRecDepth 20000 in
set_option maxHeartbeats 1000000 in
theorem level_mul_ok {a0 : Rat} {a1 : Rat} {w : World} {res : Rat} (F : level_mul a0 a1 = some res) : Calls Try.prog 73 #[.agg #[.int .i64 a0.num, .int .i64 a0.den], .agg #[.int .i64 a1.num, .int .i64 a1.den]] w (Rt w (.agg #[.int .i64 res.num, .int .i64 res.den])) := by
  refine calls_of_cw (args := [.agg #[.int .i64 a0.num, .int .i64 a0.den], .agg #[.int .i64 a1.num, .int .i64 a1.den]]) Try.func73 rfl rfl rfl rfl ?_
  have H := Hp.start w
  have R0 := H.ext
  unfold level_mul at F
  refine CW.seq fun K1 hK1 => ?_
  refine CW.region ?_
  refine LW.go rfl rfl (OW.box rfl fun b1 w1 N1 => ?_)
  replace H := H.new N1 N1.blk
  replace R0 := H.ext
  refine LW.go rfl rfl (OW.box rfl fun b2 w2 N2 => ?_)
  replace H := H.new N2 N2.blk
  replace R0 := H.ext
  refine LW.go rfl rfl (OW.alloc Tz28 fun b3 w3 N3 => ?_)
  replace H := H.new N3 N3.blk
  replace R0 := H.ext
  refine LW.nil (hK1 _ _ ?_)
  refine CW.seqJ (fun ρ wl1 => (∃ (c1_0_1 : Int) (c1_1_1 : Int) (c2_0_1 : Int) (c2_1_1 : Int) (bk1 : Nat) (bk2 : Nat), level_mul_k1 c1_0_1 c1_1_1 c2_0_1 c2_1_1 = some res ∧ ρ = [(4, .pointer (some (⟨b3, 0, none⟩))), (5, .pointer (some (⟨bk1, 0, none⟩))), (6, .pointer (some (⟨bk2, 0, none⟩)))] ∧ Hp w wl1 [.blk b3 28 [.int .i64 0, .int .i64 0], .blk bk1 28 [.int .i64 c1_0_1, .int .i64 c1_1_1], .blk bk2 28 [.int .i64 c2_0_1, .int .i64 c2_1_1]])) ?_ ?_
  ·
    rintro _ wl1 ⟨c1_0_1, c1_1_1, c2_0_1, c2_1_1, bk1, bk2, F, rfl, H⟩
    have R0 := H.ext
    unfold level_mul_k1 at F
    refine CW.seq fun K2 hK2 => ?_
    obtain ⟨hg1, F⟩ := gd_some F
    obtain ⟨hg2, F⟩ := gd_some F
    refine CW.region ?_
    refine LW.pure rfl rfl (RV.fieldAddr Tf28_0 rfl) ?_
    refine LW.pure rfl rfl (RV.load1 Tk3 rfl ((H.blk 1 rfl).cells.off 0) rfl) ?_
    refine LW.pure rfl rfl (RV.fieldAddr Tf28_0 rfl) ?_
    refine LW.pure rfl rfl (RV.load1 Tk3 rfl ((H.blk 2 rfl).cells.off 0) rfl) ?_
    refine LW.pure rfl rfl (RV.mul rfl rfl hg1) ?_
    refine LW.pure rfl rfl (RV.fieldAddr Tf28_1 rfl) ?_
    refine LW.pure rfl rfl (RV.load1 Tk3 rfl ((H.blk 1 rfl).cells.off 1) rfl) ?_
    refine LW.pure rfl rfl (RV.fieldAddr Tf28_1 rfl) ?_
    refine LW.pure rfl rfl (RV.load1 Tk3 rfl ((H.blk 2 rfl).cells.off 1) rfl) ?_
    refine LW.pure rfl rfl (RV.mul rfl rfl hg2) ?_
    refine LW.pure rfl rfl (RV.build (vs := [.int .i64 (c1_0_1 * c2_0_1), .int .i64 (c1_1_1 * c2_1_1)]) (cs := [.int .i64 (c1_0_1 * c2_0_1), .int .i64 (c1_1_1 * c2_1_1)]) rfl (fun _ => by kernel_rfl)) ?_
    refine LW.go rfl rfl (OW.store Tk28 rfl rfl (H.blk 0 rfl) (off := 0) (vs := [.int .i64 (c1_0_1 * c2_0_1), .int .i64 (c1_1_1 * c2_1_1)]) rfl rfl rfl rfl rfl fun w4 S1 => ?_)
    replace H : Hp w w4 [.blk b3 28 [.int .i64 (c1_0_1 * c2_0_1), .int .i64 (c1_1_1 * c2_1_1)], .blk bk1 28 [.int .i64 c1_0_1, .int .i64 c1_1_1], .blk bk2 28 [.int .i64 c2_0_1, .int .i64 c2_1_1]] := H.stored 0 rfl S1
    replace R0 := H.ext
    refine LW.nil (hK2 _ _ ?_)
    refine CW.ret ?_
    obtain rfl := Option.some.inj F
    refine ⟨_, (ResOK.cell1 ⟨_, rfl, run_loadVar_agg Tk28 (H.blk 0 rfl).cells (us := [.int .i64 (c1_0_1 * c2_0_1), .int .i64 (c1_1_1 * c2_1_1)]) rfl rfl⟩), ?_⟩
    refine ⟨(by first | rfl | simp), R0⟩
  ·
    intro K3 hK3 jK6
    obtain ⟨r1, hr1, F⟩ := bnd_some F
    obtain ⟨r2, hr2, F⟩ := bnd_some F
    have H0 := H
    have hz : w3.heap.size ≤ w3.heap.size := Nat.le_refl _
    refine CW.draw [12, 13] (XB w3 [.blk b3 28 [.int .i64 0, .int .i64 0], .blk b2 28 [.int .i64 a1.num, .int .i64 a1.den], .blk b1 28 [.int .i64 a0.num, .int .i64 a0.den]] []) (.cons 0 1 (.cons 1 1 (.cons 2 1 (.cons 3 1 (.cons 5 2 (.cons 6 2 (.cons 7 2 (.cons 8 2 (.alt 4 (.alt 9 (.alt 10 (.cons 11 0 (.cons 12 0 (.cons 13 0 .nil))) (.cons 11 0 (.cons 10 0 (.cons 12 0 (.cons 13 0 .nil))))) (.alt 10 (.alt 9 (.cons 11 0 (.cons 12 0 (.cons 13 0 .nil))) (.cons 11 0 (.cons 9 0 (.cons 12 0 (.cons 13 0 .nil))))) (.cons 11 0 (.alt 9 (.cons 10 0 (.cons 12 0 (.cons 13 0 .nil))) (.cons 10 0 (.cons 9 0 (.cons 12 0 (.cons 13 0 .nil)))))))) (.alt 10 (.alt 4 (.alt 9 (.cons 11 0 (.cons 12 0 (.cons 13 0 .nil))) (.cons 11 0 (.cons 9 0 (.cons 12 0 (.cons 13 0 .nil))))) (.cons 11 0 (.cons 4 0 (.cons 9 0 (.cons 12 0 (.cons 13 0 .nil)))))) (.cons 11 0 (.alt 4 (.alt 9 (.cons 10 0 (.cons 12 0 (.cons 13 0 .nil))) (.cons 10 0 (.cons 9 0 (.cons 12 0 (.cons 13 0 .nil))))) (.cons 10 0 (.cons 4 0 (.cons 9 0 (.cons 12 0 (.cons 13 0 .nil))))))))))))))))) mixed (by kernel_rfl) fun w5 E1 => ?_
    replace H := H.grow E1
    replace R0 := H.ext
    replace hz := Nat.le_trans hz (Ext.size E1)
    refine DW.fix rfl rfl rfl (fun _ EQ => RV.fieldAddr Tf28_0 rfl) ?_
    refine DW.fix rfl rfl rfl (fun _ EQ => RV.load1 Tk3 rfl (((H.grow EQ).blk 2 rfl).cells.off 0) rfl) ?_
    refine DW.fix rfl rfl rfl (fun _ EQ => RV.fieldAddr Tf28_1 rfl) ?_
    refine DW.fix rfl rfl rfl (fun _ EQ => RV.load1 Tk3 rfl (((H.grow EQ).blk 1 rfl).cells.off 1) rfl) ?_
    refine DW.thru rfl rfl rfl (fun _ EQ => RV.fieldAddr Tf28_0 rfl) ?_
    refine DW.thru rfl rfl rfl (fun _ EQ => RV.load1 Tk3 rfl ((H.thruB 1 rfl EQ (H0.notX [] 1 rfl (by decide))).cells.off 0) rfl) ?_
    refine DW.thru rfl rfl rfl (fun _ EQ => RV.fieldAddr Tf28_1 rfl) ?_
    refine DW.thru rfl rfl rfl (fun _ EQ => RV.load1 Tk3 rfl ((H.thruB 2 rfl EQ (H0.notX [] 2 rfl (by decide))).cells.off 1) rfl) ?_
    refine DW.alt ?_ ?_
    ·
      refine DW.sole rfl rfl rfl (OW.call Tc80 rfl (level_ratio_ok (a0 := a0.num) (a1 := a1.den) hr1) ?_)
      rintro _ w6 ⟨rfl, E2⟩
      refine ⟨_, rfl, fun _ => E2, ModX.ext E2, ?_⟩
      replace H := H.grow E2
      replace R0 := H.ext
      replace hz := Nat.le_trans hz (Ext.size E2)
      refine DW.alt ?_ ?_
      ·
        refine DW.sole rfl rfl rfl (OW.call Tc80 rfl (level_ratio_ok (a0 := a1.num) (a1 := a0.den) hr2) ?_)
        rintro _ w7 ⟨rfl, E3⟩
        refine ⟨_, rfl, fun _ => E3, ModX.ext E3, ?_⟩
        replace H := H.grow E3
        replace R0 := H.ext
        replace hz := Nat.le_trans hz (Ext.size E3)
        refine DW.alt ?_ ?_
        ·
          refine DW.sole rfl rfl rfl (OW.alloc Tz28 fun b4 w8 N4 => ?_)
          refine ⟨fun _ => N4.ext, ModX.ext N4.ext, ?_⟩
          have G0_b4 : w3.heap.size ≤ b4 := by rw [N4.at_]; exact hz
          replace H := H.new N4 N4.blk
          replace R0 := H.ext
          replace hz := Nat.le_trans hz (Ext.size N4.ext)
          refine DW.sole rfl rfl rfl (OW.alloc Tz28 fun b5 w9 N5 => ?_)
          refine ⟨fun _ => N5.ext, ModX.ext N5.ext, ?_⟩
          have G0_b5 : w3.heap.size ≤ b5 := by rw [N5.at_]; exact hz
          replace H := H.new N5 N5.blk
          replace R0 := H.ext
          replace hz := Nat.le_trans hz (Ext.size N5.ext)
          refine DW.sole rfl rfl rfl (OW.store Tk28 rfl rfl (H.blk 1 rfl) (off := 0) (vs := [.int .i64 r1.num, .int .i64 r1.den]) rfl rfl rfl rfl rfl fun w10 S2 => ?_)
          refine ⟨fun h => absurd h (by decide), S2.modx (.inl G0_b4), ?_⟩
          replace H : Hp w w10 [.blk b5 28 [.int .i64 0, .int .i64 0], .blk b4 28 [.int .i64 r1.num, .int .i64 r1.den], .blk b3 28 [.int .i64 0, .int .i64 0], .blk b2 28 [.int .i64 a1.num, .int .i64 a1.den], .blk b1 28 [.int .i64 a0.num, .int .i64 a0.den]] := H.stored 1 rfl S2
          replace R0 := H.ext
          replace hz := Nat.le_trans hz (Nat.le_of_eq S2.size.symm)
          refine DW.sole rfl rfl rfl (OW.store Tk28 rfl rfl (H.blk 0 rfl) (off := 0) (vs := [.int .i64 r2.num, .int .i64 r2.den]) rfl rfl rfl rfl rfl fun w11 S3 => ?_)
          refine ⟨fun h => absurd h (by decide), S3.modx (.inl G0_b5), ?_⟩
          replace H : Hp w w11 [.blk b5 28 [.int .i64 r2.num, .int .i64 r2.den], .blk b4 28 [.int .i64 r1.num, .int .i64 r1.den], .blk b3 28 [.int .i64 0, .int .i64 0], .blk b2 28 [.int .i64 a1.num, .int .i64 a1.den], .blk b1 28 [.int .i64 a0.num, .int .i64 a0.den]] := H.stored 0 rfl S3
          replace R0 := H.ext
          replace hz := Nat.le_trans hz (Nat.le_of_eq S3.size.symm)
          replace H := H.pick (L' := [.blk b3 28 [.int .i64 0, .int .i64 0], .blk b4 28 [.int .i64 r1.num, .int .i64 r1.den], .blk b5 28 [.int .i64 r2.num, .int .i64 r2.den]]) [2, 1, 0] (by decide) rfl
          replace R0 := H.ext
          refine DW.nil (jK6 _ _ ⟨_, ?_, ⟨r1.num, r1.den, r2.num, r2.den, b4, b5, F, rfl, H⟩⟩)
          exact ⟨rfl, rfl, rfl, trivial⟩
        ·
          refine DW.sole rfl rfl rfl (OW.alloc Tz28 fun b6 w12 N6 => ?_)
          refine ⟨fun _ => N6.ext, ModX.ext N6.ext, ?_⟩
          have G0_b6 : w3.heap.size ≤ b6 := by rw [N6.at_]; exact hz
          replace H := H.new N6 N6.blk
          replace R0 := H.ext
          replace hz := Nat.le_trans hz (Ext.size N6.ext)
          refine DW.sole rfl rfl rfl (OW.alloc Tz28 fun b7 w13 N7 => ?_)
          refine ⟨fun _ => N7.ext, ModX.ext N7.ext, ?_⟩
          have G0_b7 : w3.heap.size ≤ b7 := by rw [N7.at_]; exact hz
          replace H := H.new N7 N7.blk
          replace R0 := H.ext
          replace hz := Nat.le_trans hz (Ext.size N7.ext)
          refine DW.sole rfl rfl rfl (OW.store Tk28 rfl rfl (H.blk 0 rfl) (off := 0) (vs := [.int .i64 r1.num, .int .i64 r1.den]) rfl rfl rfl rfl rfl fun w14 S4 => ?_)
          refine ⟨fun h => absurd h (by decide), S4.modx (.inl G0_b7), ?_⟩
          replace H : Hp w w14 [.blk b7 28 [.int .i64 r1.num, .int .i64 r1.den], .blk b6 28 [.int .i64 0, .int .i64 0], .blk b3 28 [.int .i64 0, .int .i64 0], .blk b2 28 [.int .i64 a1.num, .int .i64 a1.den], .blk b1 28 [.int .i64 a0.num, .int .i64 a0.den]] := H.stored 0 rfl S4
          replace R0 := H.ext
          replace hz := Nat.le_trans hz (Nat.le_of_eq S4.size.symm)
          refine DW.sole rfl rfl rfl (OW.store Tk28 rfl rfl (H.blk 1 rfl) (off := 0) (vs := [.int .i64 r2.num, .int .i64 r2.den]) rfl rfl rfl rfl rfl fun w15 S5 => ?_)
          refine ⟨fun h => absurd h (by decide), S5.modx (.inl G0_b6), ?_⟩
          replace H : Hp w w15 [.blk b7 28 [.int .i64 r1.num, .int .i64 r1.den], .blk b6 28 [.int .i64 r2.num, .int .i64 r2.den], .blk b3 28 [.int .i64 0, .int .i64 0], .blk b2 28 [.int .i64 a1.num, .int .i64 a1.den], .blk b1 28 [.int .i64 a0.num, .int .i64 a0.den]] := H.stored 1 rfl S5
          replace R0 := H.ext
          replace hz := Nat.le_trans hz (Nat.le_of_eq S5.size.symm)
          replace H := H.pick (L' := [.blk b3 28 [.int .i64 0, .int .i64 0], .blk b7 28 [.int .i64 r1.num, .int .i64 r1.den], .blk b6 28 [.int .i64 r2.num, .int .i64 r2.den]]) [2, 0, 1] (by decide) rfl
          replace R0 := H.ext
          refine DW.nil (jK6 _ _ ⟨_, ?_, ⟨r1.num, r1.den, r2.num, r2.den, b7, b6, F, rfl, H⟩⟩)
          exact ⟨rfl, rfl, rfl, trivial⟩
      ·
        refine DW.alt ?_ ?_
        ·
          refine DW.sole rfl rfl rfl (OW.alloc Tz28 fun b8 w16 N8 => ?_)
          refine ⟨fun _ => N8.ext, ModX.ext N8.ext, ?_⟩
          have G0_b8 : w3.heap.size ≤ b8 := by rw [N8.at_]; exact hz
          replace H := H.new N8 N8.blk
          replace R0 := H.ext
          replace hz := Nat.le_trans hz (Ext.size N8.ext)
          refine DW.alt ?_ ?_
          ·
            refine DW.sole rfl rfl rfl (OW.call Tc80 rfl (level_ratio_ok (a0 := a1.num) (a1 := a0.den) hr2) ?_)
            rintro _ w17 ⟨rfl, E4⟩
            refine ⟨_, rfl, fun _ => E4, ModX.ext E4, ?_⟩
            replace H := H.grow E4
            replace R0 := H.ext
            replace hz := Nat.le_trans hz (Ext.size E4)
            refine DW.sole rfl rfl rfl (OW.alloc Tz28 fun b9 w18 N9 => ?_)
            refine ⟨fun _ => N9.ext, ModX.ext N9.ext, ?_⟩
            have G0_b9 : w3.heap.size ≤ b9 := by rw [N9.at_]; exact hz
            replace H := H.new N9 N9.blk
            replace R0 := H.ext
            replace hz := Nat.le_trans hz (Ext.size N9.ext)
            refine DW.sole rfl rfl rfl (OW.store Tk28 rfl rfl (H.blk 1 rfl) (off := 0) (vs := [.int .i64 r1.num, .int .i64 r1.den]) rfl rfl rfl rfl rfl fun w19 S6 => ?_)
            refine ⟨fun h => absurd h (by decide), S6.modx (.inl G0_b8), ?_⟩
            replace H : Hp w w19 [.blk b9 28 [.int .i64 0, .int .i64 0], .blk b8 28 [.int .i64 r1.num, .int .i64 r1.den], .blk b3 28 [.int .i64 0, .int .i64 0], .blk b2 28 [.int .i64 a1.num, .int .i64 a1.den], .blk b1 28 [.int .i64 a0.num, .int .i64 a0.den]] := H.stored 1 rfl S6
            replace R0 := H.ext
            replace hz := Nat.le_trans hz (Nat.le_of_eq S6.size.symm)
            refine DW.sole rfl rfl rfl (OW.store Tk28 rfl rfl (H.blk 0 rfl) (off := 0) (vs := [.int .i64 r2.num, .int .i64 r2.den]) rfl rfl rfl rfl rfl fun w20 S7 => ?_)
            refine ⟨fun h => absurd h (by decide), S7.modx (.inl G0_b9), ?_⟩
            replace H : Hp w w20 [.blk b9 28 [.int .i64 r2.num, .int .i64 r2.den], .blk b8 28 [.int .i64 r1.num, .int .i64 r1.den], .blk b3 28 [.int .i64 0, .int .i64 0], .blk b2 28 [.int .i64 a1.num, .int .i64 a1.den], .blk b1 28 [.int .i64 a0.num, .int .i64 a0.den]] := H.stored 0 rfl S7
            replace R0 := H.ext
            replace hz := Nat.le_trans hz (Nat.le_of_eq S7.size.symm)
            replace H := H.pick (L' := [.blk b3 28 [.int .i64 0, .int .i64 0], .blk b8 28 [.int .i64 r1.num, .int .i64 r1.den], .blk b9 28 [.int .i64 r2.num, .int .i64 r2.den]]) [2, 1, 0] (by decide) rfl
            replace R0 := H.ext
            refine DW.nil (jK6 _ _ ⟨_, ?_, ⟨r1.num, r1.den, r2.num, r2.den, b8, b9, F, rfl, H⟩⟩)
            exact ⟨rfl, rfl, rfl, trivial⟩
          ·
            refine DW.sole rfl rfl rfl (OW.alloc Tz28 fun b10 w21 N10 => ?_)
            refine ⟨fun _ => N10.ext, ModX.ext N10.ext, ?_⟩
            have G0_b10 : w3.heap.size ≤ b10 := by rw [N10.at_]; exact hz
            replace H := H.new N10 N10.blk
            replace R0 := H.ext
            replace hz := Nat.le_trans hz (Ext.size N10.ext)
            refine DW.sole rfl rfl rfl (OW.call Tc80 rfl (level_ratio_ok (a0 := a1.num) (a1 := a0.den) hr2) ?_)
            rintro _ w22 ⟨rfl, E5⟩
            refine ⟨_, rfl, fun _ => E5, ModX.ext E5, ?_⟩
            replace H := H.grow E5
            replace R0 := H.ext
            replace hz := Nat.le_trans hz (Ext.size E5)
            refine DW.sole rfl rfl rfl (OW.store Tk28 rfl rfl (H.blk 1 rfl) (off := 0) (vs := [.int .i64 r1.num, .int .i64 r1.den]) rfl rfl rfl rfl rfl fun w23 S8 => ?_)
            refine ⟨fun h => absurd h (by decide), S8.modx (.inl G0_b8), ?_⟩
            replace H : Hp w w23 [.blk b10 28 [.int .i64 0, .int .i64 0], .blk b8 28 [.int .i64 r1.num, .int .i64 r1.den], .blk b3 28 [.int .i64 0, .int .i64 0], .blk b2 28 [.int .i64 a1.num, .int .i64 a1.den], .blk b1 28 [.int .i64 a0.num, .int .i64 a0.den]] := H.stored 1 rfl S8
            replace R0 := H.ext
            replace hz := Nat.le_trans hz (Nat.le_of_eq S8.size.symm)
            refine DW.sole rfl rfl rfl (OW.store Tk28 rfl rfl (H.blk 0 rfl) (off := 0) (vs := [.int .i64 r2.num, .int .i64 r2.den]) rfl rfl rfl rfl rfl fun w24 S9 => ?_)
            refine ⟨fun h => absurd h (by decide), S9.modx (.inl G0_b10), ?_⟩
            replace H : Hp w w24 [.blk b10 28 [.int .i64 r2.num, .int .i64 r2.den], .blk b8 28 [.int .i64 r1.num, .int .i64 r1.den], .blk b3 28 [.int .i64 0, .int .i64 0], .blk b2 28 [.int .i64 a1.num, .int .i64 a1.den], .blk b1 28 [.int .i64 a0.num, .int .i64 a0.den]] := H.stored 0 rfl S9
            replace R0 := H.ext
            replace hz := Nat.le_trans hz (Nat.le_of_eq S9.size.symm)
            replace H := H.pick (L' := [.blk b3 28 [.int .i64 0, .int .i64 0], .blk b8 28 [.int .i64 r1.num, .int .i64 r1.den], .blk b10 28 [.int .i64 r2.num, .int .i64 r2.den]]) [2, 1, 0] (by decide) rfl
            replace R0 := H.ext
            refine DW.nil (jK6 _ _ ⟨_, ?_, ⟨r1.num, r1.den, r2.num, r2.den, b8, b10, F, rfl, H⟩⟩)
            exact ⟨rfl, rfl, rfl, trivial⟩
        ·
          refine DW.sole rfl rfl rfl (OW.alloc Tz28 fun b11 w25 N11 => ?_)
          refine ⟨fun _ => N11.ext, ModX.ext N11.ext, ?_⟩
          have G0_b11 : w3.heap.size ≤ b11 := by rw [N11.at_]; exact hz
          replace H := H.new N11 N11.blk
          replace R0 := H.ext
          replace hz := Nat.le_trans hz (Ext.size N11.ext)
          refine DW.alt ?_ ?_
          ·
            refine DW.sole rfl rfl rfl (OW.call Tc80 rfl (level_ratio_ok (a0 := a1.num) (a1 := a0.den) hr2) ?_)
            rintro _ w26 ⟨rfl, E6⟩
            refine ⟨_, rfl, fun _ => E6, ModX.ext E6, ?_⟩
            replace H := H.grow E6
            replace R0 := H.ext
            replace hz := Nat.le_trans hz (Ext.size E6)
            refine DW.sole rfl rfl rfl (OW.alloc Tz28 fun b12 w27 N12 => ?_)
            refine ⟨fun _ => N12.ext, ModX.ext N12.ext, ?_⟩
            have G0_b12 : w3.heap.size ≤ b12 := by rw [N12.at_]; exact hz
            replace H := H.new N12 N12.blk
            replace R0 := H.ext
            replace hz := Nat.le_trans hz (Ext.size N12.ext)
            refine DW.sole rfl rfl rfl (OW.store Tk28 rfl rfl (H.blk 0 rfl) (off := 0) (vs := [.int .i64 r1.num, .int .i64 r1.den]) rfl rfl rfl rfl rfl fun w28 S10 => ?_)
            refine ⟨fun h => absurd h (by decide), S10.modx (.inl G0_b12), ?_⟩
            replace H : Hp w w28 [.blk b12 28 [.int .i64 r1.num, .int .i64 r1.den], .blk b11 28 [.int .i64 0, .int .i64 0], .blk b3 28 [.int .i64 0, .int .i64 0], .blk b2 28 [.int .i64 a1.num, .int .i64 a1.den], .blk b1 28 [.int .i64 a0.num, .int .i64 a0.den]] := H.stored 0 rfl S10
            replace R0 := H.ext
            replace hz := Nat.le_trans hz (Nat.le_of_eq S10.size.symm)
            refine DW.sole rfl rfl rfl (OW.store Tk28 rfl rfl (H.blk 1 rfl) (off := 0) (vs := [.int .i64 r2.num, .int .i64 r2.den]) rfl rfl rfl rfl rfl fun w29 S11 => ?_)
            refine ⟨fun h => absurd h (by decide), S11.modx (.inl G0_b11), ?_⟩
            replace H : Hp w w29 [.blk b12 28 [.int .i64 r1.num, .int .i64 r1.den], .blk b11 28 [.int .i64 r2.num, .int .i64 r2.den], .blk b3 28 [.int .i64 0, .int .i64 0], .blk b2 28 [.int .i64 a1.num, .int .i64 a1.den], .blk b1 28 [.int .i64 a0.num, .int .i64 a0.den]] := H.stored 1 rfl S11
            replace R0 := H.ext
            replace hz := Nat.le_trans hz (Nat.le_of_eq S11.size.symm)
            replace H := H.pick (L' := [.blk b3 28 [.int .i64 0, .int .i64 0], .blk b12 28 [.int .i64 r1.num, .int .i64 r1.den], .blk b11 28 [.int .i64 r2.num, .int .i64 r2.den]]) [2, 0, 1] (by decide) rfl
            replace R0 := H.ext
            refine DW.nil (jK6 _ _ ⟨_, ?_, ⟨r1.num, r1.den, r2.num, r2.den, b12, b11, F, rfl, H⟩⟩)
            exact ⟨rfl, rfl, rfl, trivial⟩
          ·
            refine DW.sole rfl rfl rfl (OW.alloc Tz28 fun b13 w30 N13 => ?_)
            refine ⟨fun _ => N13.ext, ModX.ext N13.ext, ?_⟩
            have G0_b13 : w3.heap.size ≤ b13 := by rw [N13.at_]; exact hz
            replace H := H.new N13 N13.blk
            replace R0 := H.ext
            replace hz := Nat.le_trans hz (Ext.size N13.ext)
            refine DW.sole rfl rfl rfl (OW.call Tc80 rfl (level_ratio_ok (a0 := a1.num) (a1 := a0.den) hr2) ?_)
            rintro _ w31 ⟨rfl, E7⟩
            refine ⟨_, rfl, fun _ => E7, ModX.ext E7, ?_⟩
            replace H := H.grow E7
            replace R0 := H.ext
            replace hz := Nat.le_trans hz (Ext.size E7)
            refine DW.sole rfl rfl rfl (OW.store Tk28 rfl rfl (H.blk 0 rfl) (off := 0) (vs := [.int .i64 r1.num, .int .i64 r1.den]) rfl rfl rfl rfl rfl fun w32 S12 => ?_)
            refine ⟨fun h => absurd h (by decide), S12.modx (.inl G0_b13), ?_⟩
            replace H : Hp w w32 [.blk b13 28 [.int .i64 r1.num, .int .i64 r1.den], .blk b11 28 [.int .i64 0, .int .i64 0], .blk b3 28 [.int .i64 0, .int .i64 0], .blk b2 28 [.int .i64 a1.num, .int .i64 a1.den], .blk b1 28 [.int .i64 a0.num, .int .i64 a0.den]] := H.stored 0 rfl S12
            replace R0 := H.ext
            replace hz := Nat.le_trans hz (Nat.le_of_eq S12.size.symm)
            refine DW.sole rfl rfl rfl (OW.store Tk28 rfl rfl (H.blk 1 rfl) (off := 0) (vs := [.int .i64 r2.num, .int .i64 r2.den]) rfl rfl rfl rfl rfl fun w33 S13 => ?_)
            refine ⟨fun h => absurd h (by decide), S13.modx (.inl G0_b11), ?_⟩
            replace H : Hp w w33 [.blk b13 28 [.int .i64 r1.num, .int .i64 r1.den], .blk b11 28 [.int .i64 r2.num, .int .i64 r2.den], .blk b3 28 [.int .i64 0, .int .i64 0], .blk b2 28 [.int .i64 a1.num, .int .i64 a1.den], .blk b1 28 [.int .i64 a0.num, .int .i64 a0.den]] := H.stored 1 rfl S13
            replace R0 := H.ext
            replace hz := Nat.le_trans hz (Nat.le_of_eq S13.size.symm)
            replace H := H.pick (L' := [.blk b3 28 [.int .i64 0, .int .i64 0], .blk b13 28 [.int .i64 r1.num, .int .i64 r1.den], .blk b11 28 [.int .i64 r2.num, .int .i64 r2.den]]) [2, 0, 1] (by decide) rfl
            replace R0 := H.ext
            refine DW.nil (jK6 _ _ ⟨_, ?_, ⟨r1.num, r1.den, r2.num, r2.den, b13, b11, F, rfl, H⟩⟩)
            exact ⟨rfl, rfl, rfl, trivial⟩
    ·
      refine DW.alt ?_ ?_
      ·
        refine DW.sole rfl rfl rfl (OW.alloc Tz28 fun b14 w34 N14 => ?_)
        refine ⟨fun _ => N14.ext, ModX.ext N14.ext, ?_⟩
        have G0_b14 : w3.heap.size ≤ b14 := by rw [N14.at_]; exact hz
        replace H := H.new N14 N14.blk
        replace R0 := H.ext
        replace hz := Nat.le_trans hz (Ext.size N14.ext)
        refine DW.alt ?_ ?_
        ·
          refine DW.sole rfl rfl rfl (OW.call Tc80 rfl (level_ratio_ok (a0 := a0.num) (a1 := a1.den) hr1) ?_)
          rintro _ w35 ⟨rfl, E8⟩
          refine ⟨_, rfl, fun _ => E8, ModX.ext E8, ?_⟩
          replace H := H.grow E8
          replace R0 := H.ext
          replace hz := Nat.le_trans hz (Ext.size E8)
          refine DW.alt ?_ ?_
          ·
            refine DW.sole rfl rfl rfl (OW.call Tc80 rfl (level_ratio_ok (a0 := a1.num) (a1 := a0.den) hr2) ?_)
            rintro _ w36 ⟨rfl, E9⟩
            refine ⟨_, rfl, fun _ => E9, ModX.ext E9, ?_⟩
            replace H := H.grow E9
            replace R0 := H.ext
            replace hz := Nat.le_trans hz (Ext.size E9)
            refine DW.sole rfl rfl rfl (OW.alloc Tz28 fun b15 w37 N15 => ?_)
            refine ⟨fun _ => N15.ext, ModX.ext N15.ext, ?_⟩
            have G0_b15 : w3.heap.size ≤ b15 := by rw [N15.at_]; exact hz
            replace H := H.new N15 N15.blk
            replace R0 := H.ext
            replace hz := Nat.le_trans hz (Ext.size N15.ext)
            refine DW.sole rfl rfl rfl (OW.store Tk28 rfl rfl (H.blk 1 rfl) (off := 0) (vs := [.int .i64 r1.num, .int .i64 r1.den]) rfl rfl rfl rfl rfl fun w38 S14 => ?_)
            refine ⟨fun h => absurd h (by decide), S14.modx (.inl G0_b14), ?_⟩
            replace H : Hp w w38 [.blk b15 28 [.int .i64 0, .int .i64 0], .blk b14 28 [.int .i64 r1.num, .int .i64 r1.den], .blk b3 28 [.int .i64 0, .int .i64 0], .blk b2 28 [.int .i64 a1.num, .int .i64 a1.den], .blk b1 28 [.int .i64 a0.num, .int .i64 a0.den]] := H.stored 1 rfl S14
            replace R0 := H.ext
            replace hz := Nat.le_trans hz (Nat.le_of_eq S14.size.symm)
            refine DW.sole rfl rfl rfl (OW.store Tk28 rfl rfl (H.blk 0 rfl) (off := 0) (vs := [.int .i64 r2.num, .int .i64 r2.den]) rfl rfl rfl rfl rfl fun w39 S15 => ?_)
            refine ⟨fun h => absurd h (by decide), S15.modx (.inl G0_b15), ?_⟩
            replace H : Hp w w39 [.blk b15 28 [.int .i64 r2.num, .int .i64 r2.den], .blk b14 28 [.int .i64 r1.num, .int .i64 r1.den], .blk b3 28 [.int .i64 0, .int .i64 0], .blk b2 28 [.int .i64 a1.num, .int .i64 a1.den], .blk b1 28 [.int .i64 a0.num, .int .i64 a0.den]] := H.stored 0 rfl S15
            replace R0 := H.ext
            replace hz := Nat.le_trans hz (Nat.le_of_eq S15.size.symm)
            replace H := H.pick (L' := [.blk b3 28 [.int .i64 0, .int .i64 0], .blk b14 28 [.int .i64 r1.num, .int .i64 r1.den], .blk b15 28 [.int .i64 r2.num, .int .i64 r2.den]]) [2, 1, 0] (by decide) rfl
            replace R0 := H.ext
            refine DW.nil (jK6 _ _ ⟨_, ?_, ⟨r1.num, r1.den, r2.num, r2.den, b14, b15, F, rfl, H⟩⟩)
            exact ⟨rfl, rfl, rfl, trivial⟩
          ·
            refine DW.sole rfl rfl rfl (OW.alloc Tz28 fun b16 w40 N16 => ?_)
            refine ⟨fun _ => N16.ext, ModX.ext N16.ext, ?_⟩
            have G0_b16 : w3.heap.size ≤ b16 := by rw [N16.at_]; exact hz
            replace H := H.new N16 N16.blk
            replace R0 := H.ext
            replace hz := Nat.le_trans hz (Ext.size N16.ext)
            refine DW.sole rfl rfl rfl (OW.call Tc80 rfl (level_ratio_ok (a0 := a1.num) (a1 := a0.den) hr2) ?_)
            rintro _ w41 ⟨rfl, E10⟩
            refine ⟨_, rfl, fun _ => E10, ModX.ext E10, ?_⟩
            replace H := H.grow E10
            replace R0 := H.ext
            replace hz := Nat.le_trans hz (Ext.size E10)
            refine DW.sole rfl rfl rfl (OW.store Tk28 rfl rfl (H.blk 1 rfl) (off := 0) (vs := [.int .i64 r1.num, .int .i64 r1.den]) rfl rfl rfl rfl rfl fun w42 S16 => ?_)
            refine ⟨fun h => absurd h (by decide), S16.modx (.inl G0_b14), ?_⟩
            replace H : Hp w w42 [.blk b16 28 [.int .i64 0, .int .i64 0], .blk b14 28 [.int .i64 r1.num, .int .i64 r1.den], .blk b3 28 [.int .i64 0, .int .i64 0], .blk b2 28 [.int .i64 a1.num, .int .i64 a1.den], .blk b1 28 [.int .i64 a0.num, .int .i64 a0.den]] := H.stored 1 rfl S16
            replace R0 := H.ext
            replace hz := Nat.le_trans hz (Nat.le_of_eq S16.size.symm)
            refine DW.sole rfl rfl rfl (OW.store Tk28 rfl rfl (H.blk 0 rfl) (off := 0) (vs := [.int .i64 r2.num, .int .i64 r2.den]) rfl rfl rfl rfl rfl fun w43 S17 => ?_)
            refine ⟨fun h => absurd h (by decide), S17.modx (.inl G0_b16), ?_⟩
            replace H : Hp w w43 [.blk b16 28 [.int .i64 r2.num, .int .i64 r2.den], .blk b14 28 [.int .i64 r1.num, .int .i64 r1.den], .blk b3 28 [.int .i64 0, .int .i64 0], .blk b2 28 [.int .i64 a1.num, .int .i64 a1.den], .blk b1 28 [.int .i64 a0.num, .int .i64 a0.den]] := H.stored 0 rfl S17
            replace R0 := H.ext
            replace hz := Nat.le_trans hz (Nat.le_of_eq S17.size.symm)
            replace H := H.pick (L' := [.blk b3 28 [.int .i64 0, .int .i64 0], .blk b14 28 [.int .i64 r1.num, .int .i64 r1.den], .blk b16 28 [.int .i64 r2.num, .int .i64 r2.den]]) [2, 1, 0] (by decide) rfl
            replace R0 := H.ext
            refine DW.nil (jK6 _ _ ⟨_, ?_, ⟨r1.num, r1.den, r2.num, r2.den, b14, b16, F, rfl, H⟩⟩)
            exact ⟨rfl, rfl, rfl, trivial⟩
        ·
          refine DW.sole rfl rfl rfl (OW.alloc Tz28 fun b17 w44 N17 => ?_)
          refine ⟨fun _ => N17.ext, ModX.ext N17.ext, ?_⟩
          have G0_b17 : w3.heap.size ≤ b17 := by rw [N17.at_]; exact hz
          replace H := H.new N17 N17.blk
          replace R0 := H.ext
          replace hz := Nat.le_trans hz (Ext.size N17.ext)
          refine DW.sole rfl rfl rfl (OW.call Tc80 rfl (level_ratio_ok (a0 := a0.num) (a1 := a1.den) hr1) ?_)
          rintro _ w45 ⟨rfl, E11⟩
          refine ⟨_, rfl, fun _ => E11, ModX.ext E11, ?_⟩
          replace H := H.grow E11
          replace R0 := H.ext
          replace hz := Nat.le_trans hz (Ext.size E11)
          refine DW.sole rfl rfl rfl (OW.call Tc80 rfl (level_ratio_ok (a0 := a1.num) (a1 := a0.den) hr2) ?_)
          rintro _ w46 ⟨rfl, E12⟩
          refine ⟨_, rfl, fun _ => E12, ModX.ext E12, ?_⟩
          replace H := H.grow E12
          replace R0 := H.ext
          replace hz := Nat.le_trans hz (Ext.size E12)
          refine DW.sole rfl rfl rfl (OW.store Tk28 rfl rfl (H.blk 1 rfl) (off := 0) (vs := [.int .i64 r1.num, .int .i64 r1.den]) rfl rfl rfl rfl rfl fun w47 S18 => ?_)
          refine ⟨fun h => absurd h (by decide), S18.modx (.inl G0_b14), ?_⟩
          replace H : Hp w w47 [.blk b17 28 [.int .i64 0, .int .i64 0], .blk b14 28 [.int .i64 r1.num, .int .i64 r1.den], .blk b3 28 [.int .i64 0, .int .i64 0], .blk b2 28 [.int .i64 a1.num, .int .i64 a1.den], .blk b1 28 [.int .i64 a0.num, .int .i64 a0.den]] := H.stored 1 rfl S18
          replace R0 := H.ext
          replace hz := Nat.le_trans hz (Nat.le_of_eq S18.size.symm)
          refine DW.sole rfl rfl rfl (OW.store Tk28 rfl rfl (H.blk 0 rfl) (off := 0) (vs := [.int .i64 r2.num, .int .i64 r2.den]) rfl rfl rfl rfl rfl fun w48 S19 => ?_)
          refine ⟨fun h => absurd h (by decide), S19.modx (.inl G0_b17), ?_⟩
          replace H : Hp w w48 [.blk b17 28 [.int .i64 r2.num, .int .i64 r2.den], .blk b14 28 [.int .i64 r1.num, .int .i64 r1.den], .blk b3 28 [.int .i64 0, .int .i64 0], .blk b2 28 [.int .i64 a1.num, .int .i64 a1.den], .blk b1 28 [.int .i64 a0.num, .int .i64 a0.den]] := H.stored 0 rfl S19
          replace R0 := H.ext
          replace hz := Nat.le_trans hz (Nat.le_of_eq S19.size.symm)
          replace H := H.pick (L' := [.blk b3 28 [.int .i64 0, .int .i64 0], .blk b14 28 [.int .i64 r1.num, .int .i64 r1.den], .blk b17 28 [.int .i64 r2.num, .int .i64 r2.den]]) [2, 1, 0] (by decide) rfl
          replace R0 := H.ext
          refine DW.nil (jK6 _ _ ⟨_, ?_, ⟨r1.num, r1.den, r2.num, r2.den, b14, b17, F, rfl, H⟩⟩)
          exact ⟨rfl, rfl, rfl, trivial⟩
      ·
        refine DW.sole rfl rfl rfl (OW.alloc Tz28 fun b18 w49 N18 => ?_)
        refine ⟨fun _ => N18.ext, ModX.ext N18.ext, ?_⟩
        have G0_b18 : w3.heap.size ≤ b18 := by rw [N18.at_]; exact hz
        replace H := H.new N18 N18.blk
        replace R0 := H.ext
        replace hz := Nat.le_trans hz (Ext.size N18.ext)
        refine DW.alt ?_ ?_
        ·
          refine DW.sole rfl rfl rfl (OW.call Tc80 rfl (level_ratio_ok (a0 := a0.num) (a1 := a1.den) hr1) ?_)
          rintro _ w50 ⟨rfl, E13⟩
          refine ⟨_, rfl, fun _ => E13, ModX.ext E13, ?_⟩
          replace H := H.grow E13
          replace R0 := H.ext
          replace hz := Nat.le_trans hz (Ext.size E13)
          refine DW.alt ?_ ?_
          ·
            refine DW.sole rfl rfl rfl (OW.call Tc80 rfl (level_ratio_ok (a0 := a1.num) (a1 := a0.den) hr2) ?_)
            rintro _ w51 ⟨rfl, E14⟩
            refine ⟨_, rfl, fun _ => E14, ModX.ext E14, ?_⟩
            replace H := H.grow E14
            replace R0 := H.ext
            replace hz := Nat.le_trans hz (Ext.size E14)
            refine DW.sole rfl rfl rfl (OW.alloc Tz28 fun b19 w52 N19 => ?_)
            refine ⟨fun _ => N19.ext, ModX.ext N19.ext, ?_⟩
            have G0_b19 : w3.heap.size ≤ b19 := by rw [N19.at_]; exact hz
            replace H := H.new N19 N19.blk
            replace R0 := H.ext
            replace hz := Nat.le_trans hz (Ext.size N19.ext)
            refine DW.sole rfl rfl rfl (OW.store Tk28 rfl rfl (H.blk 0 rfl) (off := 0) (vs := [.int .i64 r1.num, .int .i64 r1.den]) rfl rfl rfl rfl rfl fun w53 S20 => ?_)
            refine ⟨fun h => absurd h (by decide), S20.modx (.inl G0_b19), ?_⟩
            replace H : Hp w w53 [.blk b19 28 [.int .i64 r1.num, .int .i64 r1.den], .blk b18 28 [.int .i64 0, .int .i64 0], .blk b3 28 [.int .i64 0, .int .i64 0], .blk b2 28 [.int .i64 a1.num, .int .i64 a1.den], .blk b1 28 [.int .i64 a0.num, .int .i64 a0.den]] := H.stored 0 rfl S20
            replace R0 := H.ext
            replace hz := Nat.le_trans hz (Nat.le_of_eq S20.size.symm)
            refine DW.sole rfl rfl rfl (OW.store Tk28 rfl rfl (H.blk 1 rfl) (off := 0) (vs := [.int .i64 r2.num, .int .i64 r2.den]) rfl rfl rfl rfl rfl fun w54 S21 => ?_)
            refine ⟨fun h => absurd h (by decide), S21.modx (.inl G0_b18), ?_⟩
            replace H : Hp w w54 [.blk b19 28 [.int .i64 r1.num, .int .i64 r1.den], .blk b18 28 [.int .i64 r2.num, .int .i64 r2.den], .blk b3 28 [.int .i64 0, .int .i64 0], .blk b2 28 [.int .i64 a1.num, .int .i64 a1.den], .blk b1 28 [.int .i64 a0.num, .int .i64 a0.den]] := H.stored 1 rfl S21
            replace R0 := H.ext
            replace hz := Nat.le_trans hz (Nat.le_of_eq S21.size.symm)
            replace H := H.pick (L' := [.blk b3 28 [.int .i64 0, .int .i64 0], .blk b19 28 [.int .i64 r1.num, .int .i64 r1.den], .blk b18 28 [.int .i64 r2.num, .int .i64 r2.den]]) [2, 0, 1] (by decide) rfl
            replace R0 := H.ext
            refine DW.nil (jK6 _ _ ⟨_, ?_, ⟨r1.num, r1.den, r2.num, r2.den, b19, b18, F, rfl, H⟩⟩)
            exact ⟨rfl, rfl, rfl, trivial⟩
          ·
            refine DW.sole rfl rfl rfl (OW.alloc Tz28 fun b20 w55 N20 => ?_)
            refine ⟨fun _ => N20.ext, ModX.ext N20.ext, ?_⟩
            have G0_b20 : w3.heap.size ≤ b20 := by rw [N20.at_]; exact hz
            replace H := H.new N20 N20.blk
            replace R0 := H.ext
            replace hz := Nat.le_trans hz (Ext.size N20.ext)
            refine DW.sole rfl rfl rfl (OW.call Tc80 rfl (level_ratio_ok (a0 := a1.num) (a1 := a0.den) hr2) ?_)
            rintro _ w56 ⟨rfl, E15⟩
            refine ⟨_, rfl, fun _ => E15, ModX.ext E15, ?_⟩
            replace H := H.grow E15
            replace R0 := H.ext
            replace hz := Nat.le_trans hz (Ext.size E15)
            refine DW.sole rfl rfl rfl (OW.store Tk28 rfl rfl (H.blk 0 rfl) (off := 0) (vs := [.int .i64 r1.num, .int .i64 r1.den]) rfl rfl rfl rfl rfl fun w57 S22 => ?_)
            refine ⟨fun h => absurd h (by decide), S22.modx (.inl G0_b20), ?_⟩
            replace H : Hp w w57 [.blk b20 28 [.int .i64 r1.num, .int .i64 r1.den], .blk b18 28 [.int .i64 0, .int .i64 0], .blk b3 28 [.int .i64 0, .int .i64 0], .blk b2 28 [.int .i64 a1.num, .int .i64 a1.den], .blk b1 28 [.int .i64 a0.num, .int .i64 a0.den]] := H.stored 0 rfl S22
            replace R0 := H.ext
            replace hz := Nat.le_trans hz (Nat.le_of_eq S22.size.symm)
            refine DW.sole rfl rfl rfl (OW.store Tk28 rfl rfl (H.blk 1 rfl) (off := 0) (vs := [.int .i64 r2.num, .int .i64 r2.den]) rfl rfl rfl rfl rfl fun w58 S23 => ?_)
            refine ⟨fun h => absurd h (by decide), S23.modx (.inl G0_b18), ?_⟩
            replace H : Hp w w58 [.blk b20 28 [.int .i64 r1.num, .int .i64 r1.den], .blk b18 28 [.int .i64 r2.num, .int .i64 r2.den], .blk b3 28 [.int .i64 0, .int .i64 0], .blk b2 28 [.int .i64 a1.num, .int .i64 a1.den], .blk b1 28 [.int .i64 a0.num, .int .i64 a0.den]] := H.stored 1 rfl S23
            replace R0 := H.ext
            replace hz := Nat.le_trans hz (Nat.le_of_eq S23.size.symm)
            replace H := H.pick (L' := [.blk b3 28 [.int .i64 0, .int .i64 0], .blk b20 28 [.int .i64 r1.num, .int .i64 r1.den], .blk b18 28 [.int .i64 r2.num, .int .i64 r2.den]]) [2, 0, 1] (by decide) rfl
            replace R0 := H.ext
            refine DW.nil (jK6 _ _ ⟨_, ?_, ⟨r1.num, r1.den, r2.num, r2.den, b20, b18, F, rfl, H⟩⟩)
            exact ⟨rfl, rfl, rfl, trivial⟩
        ·
          refine DW.sole rfl rfl rfl (OW.alloc Tz28 fun b21 w59 N21 => ?_)
          refine ⟨fun _ => N21.ext, ModX.ext N21.ext, ?_⟩
          have G0_b21 : w3.heap.size ≤ b21 := by rw [N21.at_]; exact hz
          replace H := H.new N21 N21.blk
          replace R0 := H.ext
          replace hz := Nat.le_trans hz (Ext.size N21.ext)
          refine DW.sole rfl rfl rfl (OW.call Tc80 rfl (level_ratio_ok (a0 := a0.num) (a1 := a1.den) hr1) ?_)
          rintro _ w60 ⟨rfl, E16⟩
          refine ⟨_, rfl, fun _ => E16, ModX.ext E16, ?_⟩
          replace H := H.grow E16
          replace R0 := H.ext
          replace hz := Nat.le_trans hz (Ext.size E16)
          refine DW.sole rfl rfl rfl (OW.call Tc80 rfl (level_ratio_ok (a0 := a1.num) (a1 := a0.den) hr2) ?_)
          rintro _ w61 ⟨rfl, E17⟩
          refine ⟨_, rfl, fun _ => E17, ModX.ext E17, ?_⟩
          replace H := H.grow E17
          replace R0 := H.ext
          replace hz := Nat.le_trans hz (Ext.size E17)
          refine DW.sole rfl rfl rfl (OW.store Tk28 rfl rfl (H.blk 0 rfl) (off := 0) (vs := [.int .i64 r1.num, .int .i64 r1.den]) rfl rfl rfl rfl rfl fun w62 S24 => ?_)
          refine ⟨fun h => absurd h (by decide), S24.modx (.inl G0_b21), ?_⟩
          replace H : Hp w w62 [.blk b21 28 [.int .i64 r1.num, .int .i64 r1.den], .blk b18 28 [.int .i64 0, .int .i64 0], .blk b3 28 [.int .i64 0, .int .i64 0], .blk b2 28 [.int .i64 a1.num, .int .i64 a1.den], .blk b1 28 [.int .i64 a0.num, .int .i64 a0.den]] := H.stored 0 rfl S24
          replace R0 := H.ext
          replace hz := Nat.le_trans hz (Nat.le_of_eq S24.size.symm)
          refine DW.sole rfl rfl rfl (OW.store Tk28 rfl rfl (H.blk 1 rfl) (off := 0) (vs := [.int .i64 r2.num, .int .i64 r2.den]) rfl rfl rfl rfl rfl fun w63 S25 => ?_)
          refine ⟨fun h => absurd h (by decide), S25.modx (.inl G0_b18), ?_⟩
          replace H : Hp w w63 [.blk b21 28 [.int .i64 r1.num, .int .i64 r1.den], .blk b18 28 [.int .i64 r2.num, .int .i64 r2.den], .blk b3 28 [.int .i64 0, .int .i64 0], .blk b2 28 [.int .i64 a1.num, .int .i64 a1.den], .blk b1 28 [.int .i64 a0.num, .int .i64 a0.den]] := H.stored 1 rfl S25
          replace R0 := H.ext
          replace hz := Nat.le_trans hz (Nat.le_of_eq S25.size.symm)
          replace H := H.pick (L' := [.blk b3 28 [.int .i64 0, .int .i64 0], .blk b21 28 [.int .i64 r1.num, .int .i64 r1.den], .blk b18 28 [.int .i64 r2.num, .int .i64 r2.den]]) [2, 0, 1] (by decide) rfl
          replace R0 := H.ext
          refine DW.nil (jK6 _ _ ⟨_, ?_, ⟨r1.num, r1.den, r2.num, r2.den, b21, b18, F, rfl, H⟩⟩)
          exact ⟨rfl, rfl, rfl, trivial⟩
set_option maxRecDepth 20000 in
set_option maxHeartbeats 1000000 in
theorem level_div_ok {a0 : Rat} {a1 : Rat} {w : World} {res : Rat} (F : level_div a0 a1 = some res) : Calls Try.prog 79 #[.agg #[.int .i64 a0.num, .int .i64 a0.den], .agg #[.int .i64 a1.num, .int .i64 a1.den]] w (Rt w (.agg #[.int .i64 res.num, .int .i64 res.den])) := by
  refine calls_of_cw (args := [.agg #[.int .i64 a0.num, .int .i64 a0.den], .agg #[.int .i64 a1.num, .int .i64 a1.den]]) Try.func79 rfl rfl rfl rfl ?_
  have H := Hp.start w
  have R0 := H.ext
  unfold level_div at F
  refine CW.seq fun K1 hK1 => ?_
  refine CW.region ?_
  refine LW.go rfl rfl (OW.box rfl fun b1 w1 N1 => ?_)
  replace H := H.new N1 N1.blk
  replace R0 := H.ext
  refine LW.go rfl rfl (OW.box rfl fun b2 w2 N2 => ?_)
  replace H := H.new N2 N2.blk
  replace R0 := H.ext
  refine LW.go rfl rfl (OW.alloc Tz28 fun b3 w3 N3 => ?_)
  replace H := H.new N3 N3.blk
  replace R0 := H.ext
  refine LW.nil (hK1 _ _ ?_)
  refine CW.seq fun K2 hK2 => ?_
  obtain ⟨r1, hr1, F⟩ := bnd_some F
  obtain ⟨r2, hr2, F⟩ := bnd_some F
  refine CW.draw [7] (fun _ => True) (.cons 0 1 (.cons 1 1 (.cons 2 1 (.cons 3 1 (.cons 4 1 (.cons 5 0 (.cons 6 0 (.cons 7 0 .nil)))))))) mixed (by kernel_rfl) fun w4 E1 => ?_
  replace H := H.grow E1
  replace R0 := H.ext
  refine DW.fix rfl rfl rfl (fun _ EQ => RV.loadA [.int .i64 a0.num, .int .i64 a0.den] Tk28 rfl ((H.grow EQ).blk 2 rfl).cells rfl rfl) ?_
  refine DW.fix rfl rfl rfl (fun _ EQ => RV.fieldAddr Tf28_1 rfl) ?_
  refine DW.fix rfl rfl rfl (fun _ EQ => RV.load1 Tk3 rfl (((H.grow EQ).blk 1 rfl).cells.off 1) rfl) ?_
  refine DW.fix rfl rfl rfl (fun _ EQ => RV.fieldAddr Tf28_0 rfl) ?_
  refine DW.fix rfl rfl rfl (fun _ EQ => RV.load1 Tk3 rfl (((H.grow EQ).blk 1 rfl).cells.off 0) rfl) ?_
  refine DW.sole rfl rfl rfl (OW.call Tc80 rfl (level_ratio_ok (a0 := a1.den) (a1 := a1.num) hr1) ?_)
  rintro _ w5 ⟨rfl, E2⟩
  refine ⟨_, rfl, fun _ => E2, ModX.ext E2, ?_⟩
  replace H := H.grow E2
  replace R0 := H.ext
  refine DW.sole rfl rfl rfl (OW.call Tc73 rfl (level_mul_ok (a0 := a0) (a1 := r1) hr2) ?_)
  rintro _ w6 ⟨rfl, E3⟩
  refine ⟨_, rfl, fun _ => E3, ModX.ext E3, ?_⟩
  replace H := H.grow E3
  replace R0 := H.ext
  refine DW.sole rfl rfl rfl (OW.store Tk28 rfl rfl (H.blk 0 rfl) (off := 0) (vs := [.int .i64 r2.num, .int .i64 r2.den]) rfl rfl rfl rfl rfl fun w7 S1 => ?_)
  refine ⟨fun h => absurd h (by decide), S1.modx trivial, ?_⟩
  replace H : Hp w w7 [.blk b3 28 [.int .i64 r2.num, .int .i64 r2.den], .blk b2 28 [.int .i64 a1.num, .int .i64 a1.den], .blk b1 28 [.int .i64 a0.num, .int .i64 a0.den]] := H.stored 0 rfl S1
  replace R0 := H.ext
  refine DW.nil (hK2 _ _ ?_)
  refine CW.ret ?_
  obtain rfl := Option.some.inj F
  refine ⟨_, (ResOK.cell1 ⟨_, rfl, run_loadVar_agg Tk28 (H.blk 0 rfl).cells (us := [.int .i64 r2.num, .int .i64 r2.den]) rfl rfl⟩), ?_⟩
  refine ⟨(by first | rfl | simp), R0⟩
end Go.D1

set_option linter.unusedVariables false
set_option linter.unusedSimpArgs false
namespace Go.D1
open Go.Tb Go.Proofs Go.RowKit
theorem Tc105 : callable Try.prog 105 = true := by kernel_rfl
theorem Tc79 : callable Try.prog 79 = true := by kernel_rfl
set_option maxRecDepth 20000 in
set_option maxHeartbeats 1000000 in
theorem level_sub_ok {a0 : Rat} {a1 : Rat} {w : World} {res : Rat} (F : level_sub a0 a1 = some res) : Calls Try.prog 105 #[.agg #[.int .i64 a0.num, .int .i64 a0.den], .agg #[.int .i64 a1.num, .int .i64 a1.den]] w (Rt w (.agg #[.int .i64 res.num, .int .i64 res.den])) := by
  refine calls_of_cw (args := [.agg #[.int .i64 a0.num, .int .i64 a0.den], .agg #[.int .i64 a1.num, .int .i64 a1.den]]) Try.func105 rfl rfl rfl rfl ?_
  have H := Hp.start w
  have R0 := H.ext
  unfold level_sub at F
  refine CW.seq fun K1 hK1 => ?_
  refine CW.region ?_
  refine LW.go rfl rfl (OW.box rfl fun b1 w1 N1 => ?_)
  replace H := H.new N1 N1.blk
  replace R0 := H.ext
  refine LW.go rfl rfl (OW.box rfl fun b2 w2 N2 => ?_)
  replace H := H.new N2 N2.blk
  replace R0 := H.ext
  refine LW.go rfl rfl (OW.alloc Tz28 fun b3 w3 N3 => ?_)
  replace H := H.new N3 N3.blk
  replace R0 := H.ext
  refine LW.nil (hK1 _ _ ?_)
  refine CW.seq fun K2 hK2 => ?_
  obtain ⟨hg1, F⟩ := gd_some F
  obtain ⟨hg2, F⟩ := gd_some F
  obtain ⟨hg3, F⟩ := gd_some F
  obtain ⟨hg4, F⟩ := gd_some F
  obtain ⟨r1, hr1, F⟩ := bnd_some F
  refine CW.region ?_
  refine LW.pure rfl rfl (RV.fieldAddr Tf28_0 rfl) ?_
  refine LW.pure rfl rfl (RV.load1 Tk3 rfl ((H.blk 2 rfl).cells.off 0) rfl) ?_
  refine LW.pure rfl rfl (RV.fieldAddr Tf28_1 rfl) ?_
  refine LW.pure rfl rfl (RV.load1 Tk3 rfl ((H.blk 1 rfl).cells.off 1) rfl) ?_
  refine LW.pure rfl rfl (RV.mul rfl rfl hg1) ?_
  refine LW.pure rfl rfl (RV.fieldAddr Tf28_0 rfl) ?_
  refine LW.pure rfl rfl (RV.load1 Tk3 rfl ((H.blk 1 rfl).cells.off 0) rfl) ?_
  refine LW.pure rfl rfl (RV.fieldAddr Tf28_1 rfl) ?_
  refine LW.pure rfl rfl (RV.load1 Tk3 rfl ((H.blk 2 rfl).cells.off 1) rfl) ?_
  refine LW.pure rfl rfl (RV.mul rfl rfl hg2) ?_
  refine LW.pure rfl rfl (RV.sub rfl rfl hg3) ?_
  refine LW.pure rfl rfl (RV.fieldAddr Tf28_1 rfl) ?_
  refine LW.pure rfl rfl (RV.load1 Tk3 rfl ((H.blk 2 rfl).cells.off 1) rfl) ?_
  refine LW.pure rfl rfl (RV.fieldAddr Tf28_1 rfl) ?_
  refine LW.pure rfl rfl (RV.load1 Tk3 rfl ((H.blk 1 rfl).cells.off 1) rfl) ?_
  refine LW.pure rfl rfl (RV.mul rfl rfl hg4) ?_
  refine LW.go rfl rfl (OW.call Tc80 rfl (level_ratio_ok (a0 := (a0.num * a1.den) - (a1.num * a0.den)) (a1 := a0.den * a1.den) hr1) ?_)
  rintro _ w4 ⟨rfl, E1⟩
  refine ⟨_, rfl, ?_⟩
  replace H := H.grow E1
  replace R0 := H.ext
  refine LW.go rfl rfl (OW.store Tk28 rfl rfl (H.blk 0 rfl) (off := 0) (vs := [.int .i64 r1.num, .int .i64 r1.den]) rfl rfl rfl rfl rfl fun w5 S1 => ?_)
  replace H : Hp w w5 [.blk b3 28 [.int .i64 r1.num, .int .i64 r1.den], .blk b2 28 [.int .i64 a1.num, .int .i64 a1.den], .blk b1 28 [.int .i64 a0.num, .int .i64 a0.den]] := H.stored 0 rfl S1
  replace R0 := H.ext
  refine LW.nil (hK2 _ _ ?_)
  refine CW.ret ?_
  obtain rfl := Option.some.inj F
  refine ⟨_, (ResOK.cell1 ⟨_, rfl, run_loadVar_agg Tk28 (H.blk 0 rfl).cells (us := [.int .i64 r1.num, .int .i64 r1.den]) rfl rfl⟩), ?_⟩
  refine ⟨(by first | rfl | simp), R0⟩
set_option maxRecDepth 20000 in
set_option maxHeartbeats 1000000 in
theorem level_solve_ok {a0 : List (List Rat)} {A_a0 : Option Addr} {c_a0 : Nat} {hs_a0 : List (Option Addr × Nat)} {wb : World} {R : List Ck} {w : World} {res : (List Rat) × (List (List Rat))} (H : Hp wb w ([.tab A_a0 c_a0 53 hs_a0 28 2 (encM encRat a0)] ++ R)) (F : level_solve a0 = some res) : Calls Try.prog 96 #[.slice A_a0 a0.length c_a0] w (fun e w' => ∃ (hsma0 : List (Option Addr × Nat)) (A1 : Option Addr) (c1 : Nat), e = .returned (.slice A1 res.1.length c1) ∧ res.2.length = a0.length ∧ Cov hsma0 hs_a0 ∧ Hp wb w' ([.tab A_a0 c_a0 53 hsma0 28 2 (encM encRat res.2), .own A1 c1 28 2 (List.map encRat res.1)] ++ R)) := by
  refine calls_of_cw (args := [.slice A_a0 a0.length c_a0]) Try.func96 rfl rfl rfl rfl ?_
  have R0 := H.ext
  unfold level_solve at F
  refine CW.seq fun K1 hK1 => ?_
  refine CW.region ?_
  refine LW.pure rfl rfl (RV.assign rfl) ?_
  refine LW.nil (hK1 _ _ ?_)
  refine CW.seqJ (fun ρ wl1 => (∃ (m1 : List (List Rat)) (hsm1 : List (Option Addr × Nat)), level_solve_k2 m1 = some res ∧ ρ = [(0, .slice A_a0 m1.length c_a0), (2, .slice none 0 0)] ∧ Hp wb wl1 ([.tab A_a0 c_a0 53 hsm1 28 2 (encM encRat m1)] ++ R) ∧ m1.length = a0.length ∧ Cov hsm1 hs_a0)) ?_ ?_
  ·
    rintro _ wl1 ⟨m1, hsm1, F, rfl, H, hl1, hcv1⟩
    have R0 := H.ext
    unfold level_solve_k2 at F
    refine CW.seq fun K2 hK2 => ?_
    refine CW.region ?_
    refine LW.pure rfl rfl (RV.assign rfl) ?_
    refine LW.nil (hK2 _ _ ?_)
    refine CW.seqJ (fun ρ wl2 => (∃ (l1 : List Rat) (Al1 : Option Addr) (cl1 : Nat), level_solve_k1 m1 l1 = some res ∧ ρ = [(2, .slice none 0 0), (8, .slice Al1 l1.length cl1)] ∧ Hp wb wl2 ([.own Al1 cl1 28 2 (List.map encRat l1), .tab A_a0 c_a0 53 hsm1 28 2 (encM encRat m1)] ++ R))) ?_ ?_
    ·
      rintro _ wl2 ⟨l1, Al1, cl1, F, rfl, H⟩
      have R0 := H.ext
      unfold level_solve_k1 at F
      refine CW.seq fun K3 hK3 => ?_
      refine CW.region ?_
      refine LW.pure rfl rfl (RV.move rfl) ?_
      refine LW.pure rfl rfl (RV.assign rfl) ?_
      refine LW.nil (hK3 _ _ ?_)
      refine CW.ret ?_
      obtain rfl := Option.some.inj F
      refine ⟨_, (ResOK.one rfl), ?_⟩
      replace H := H.pickR (C := [.own Al1 cl1 28 2 (List.map encRat l1), .tab A_a0 c_a0 53 hsm1 28 2 (encM encRat m1)]) (C' := [.tab A_a0 c_a0 53 hsm1 28 2 (encM encRat m1), .own Al1 cl1 28 2 (List.map encRat l1)]) [1, 0] (by decide) rfl
      replace R0 := H.ext
      exact ⟨hsm1, Al1, cl1, (by first | rfl | (simp; done) | (simp; omega)), (by first | rfl | assumption | omega | (simp; done) | (simp; assumption) | (simp; omega)), (by first | exact Cov.refl _ | assumption), H⟩
    ·
      intro K4 hK4 jK2058
      refine CW.seq fun K5 hK5 => ?_
      refine CW.region ?_
      refine LW.pure rfl rfl (RV.move rfl) ?_
      refine LW.pure rfl rfl (RV.len Ts101 rfl) ?_
      refine LW.pure rfl rfl (RV.move rfl) ?_
      refine LW.nil (hK5 _ _ ?_)
      refine CW.block ?_
      replace H := H.nilOwn 28 2
      replace R0 := H.ext
      replace H := H.pickR (C := [.own none 0 28 2 (List.map encRat (([] : List Rat))), .tab A_a0 c_a0 53 hsm1 28 2 (encM encRat m1)]) (C' := [.tab A_a0 c_a0 53 hsm1 28 2 (encM encRat m1), .own none 0 28 2 (List.map encRat (([] : List Rat)))]) [1, 0] (by decide) rfl
      replace R0 := H.ext
      refine CW.loop (fun meas ρ wl3 => ∃ (t109_1 : Int) (l2 : List Rat) (Al2 : Option Addr) (cl2 : Nat), level_solve_L1 m1 meas t109_1 l2 = some res ∧ ρ = [(0, .slice A_a0 m1.length c_a0), (2, .slice none 0 0), (8, .slice Al2 l2.length cl2), (108, .int .i64 ((m1.length : Int))), (109, .int .i64 t109_1)] ∧ Hp wb wl3 ([.tab A_a0 c_a0 53 hsm1 28 2 (encM encRat m1), .own Al2 cl2 28 2 (List.map encRat l2)] ++ R)) FU ⟨_, ?_, ((0 : Int)), (([] : List Rat)), none, 0, F, rfl, H⟩ ?_
      · exact ⟨(look_slice rfl (by first | rfl | (simp; done) | omega | (simp; omega))), rfl, (look_slice rfl (by first | rfl | (simp; done) | omega | (simp; omega))), rfl, rfl, trivial⟩
      rintro mk1 _ wl3 ⟨t109_1, l2, Al2, cl2, F, rfl, H⟩
      have R0 := H.ext
      replace F := level_solve_L1_s F
      obtain ⟨mk1, rfl, F⟩ := F
      generalize hrec1 : level_solve_L1 m1 mk1 = rec1 at F
      unfold level_solve_B1 at F
      refine CW.seq fun K6 hK6 => ?_
      refine CW.region ?_
      refine LW.pure rfl rfl (RV.lss rfl rfl) ?_
      refine LW.nil (hK6 _ _ ?_)
      refine CW.seq fun K7 hK7 => ?_
      by_cases hp1 : t109_1 < ((m1.length : Int))
      ·
        replace F := ite_y hp1 F
        have hq1 := dec_t hp1
        refine CW.condT rfl hq1 ?_
        refine CW.skip (hK7 _ _ ?_)
        refine CW.seq fun K8 hK8 => ?_
        refine CW.block ?_
        refine CW.seq fun K9 hK9 => ?_
        refine CW.region ?_
        refine LW.pure rfl rfl (RV.move rfl) ?_
        refine LW.pure rfl rfl (RV.assign rfl) ?_
        refine LW.nil (hK9 _ _ ?_)
        obtain ⟨x1, hbx1, hx1, F⟩ := ix_some F
        obtain ⟨x2, hbx2, hx2, F⟩ := ix_some F
        obtain ⟨x3, hbx3, hx3, F⟩ := ix_some F
        obtain ⟨x4, hbx4, hx4, F⟩ := ix_some F
        obtain ⟨r1, hr1, F⟩ := bnd_some F
        obtain ⟨hg1, F⟩ := gd_some F
        have H0 := H
        have hz : wl3.heap.size ≤ wl3.heap.size := Nat.le_refl _
        refine CW.draw [18] (XB wl3 ([.tab A_a0 c_a0 53 hsm1 28 2 (encM encRat m1), .own Al2 cl2 28 2 (List.map encRat l2)] ++ R) [1]) (.cons 0 1 (.cons 1 2 (.cons 2 2 (.cons 3 2 (.cons 4 2 (.cons 5 2 (.cons 6 2 (.cons 7 2 (.cons 8 2 (.cons 9 2 (.cons 10 2 (.cons 11 2 (.cons 12 2 (.cons 13 2 (.cons 14 2 (.cons 15 2 (.cons 16 0 (.cons 17 0 (.cons 18 0 (.cons 19 2 .nil)))))))))))))))))))) mixed (by kernel_rfl) fun w1 E1 => ?_
        replace H := H.grow E1
        replace R0 := H.ext
        replace hz := Nat.le_trans hz (Ext.size E1)
        refine DW.fix rfl rfl rfl (fun _ EQ => RV.move rfl) ?_
        refine DW.thru rfl rfl rfl (fun _ EQ => RV.move rfl) ?_
        refine DW.thru rfl rfl rfl (fun _ EQ => RV.move rfl) ?_
        obtain ⟨B1, e1, hh1⟩ := (H.tab 0 rfl).hd hx1
        refine DW.thru rfl rfl rfl (fun _ EQ => RV.indexAddr Ts101 rfl rfl hbx1 ((H.tab 0 rfl).addr_ hx1)) ?_
        refine DW.thru rfl rfl rfl (fun _ EQ => RV.load1 Tk53 rfl ((H.thruT 0 rfl EQ (H0.notX [1] 0 rfl (by decide))).cell hx1 hh1) rfl) ?_
        refine DW.thru rfl rfl rfl (fun _ EQ => RV.move rfl) ?_
        refine DW.thru rfl rfl rfl (fun _ EQ => RV.len Ts101 rfl) ?_
        refine DW.thru rfl rfl rfl (fun _ EQ => RV.indexAddr Ts53 rfl rfl hbx2 (((H.tab 0 rfl).rowO hx1 hh1).sl.addr_ hx2)) ?_
        refine DW.thru rfl rfl rfl (fun _ EQ => RV.loadA [.int .i64 x2.num, .int .i64 x2.den] Tk28 rfl (((H.thruT 0 rfl EQ (H0.notX [1] 0 rfl (by decide))).rowO hx1 hh1).sl.at_ hx2) rfl rfl) ?_
        refine DW.thru rfl rfl rfl (fun _ EQ => RV.move rfl) ?_
        refine DW.thru rfl rfl rfl (fun _ EQ => RV.move rfl) ?_
        obtain ⟨B2, e2, hh2⟩ := (H.tab 0 rfl).hd hx3
        refine DW.thru rfl rfl rfl (fun _ EQ => RV.indexAddr Ts101 rfl rfl hbx3 ((H.tab 0 rfl).addr_ hx3)) ?_
        refine DW.thru rfl rfl rfl (fun _ EQ => RV.load1 Tk53 rfl ((H.thruT 0 rfl EQ (H0.notX [1] 0 rfl (by decide))).cell hx3 hh2) rfl) ?_
        refine DW.thru rfl rfl rfl (fun _ EQ => RV.move rfl) ?_
        refine DW.thru rfl rfl rfl (fun _ EQ => RV.indexAddr Ts53 rfl rfl hbx4 (((H.tab 0 rfl).rowO hx3 hh2).sl.addr_ hx4)) ?_
        refine DW.thru rfl rfl rfl (fun _ EQ => RV.loadA [.int .i64 x4.num, .int .i64 x4.den] Tk28 rfl (((H.thruT 0 rfl EQ (H0.notX [1] 0 rfl (by decide))).rowO hx3 hh2).sl.at_ hx4) rfl rfl) ?_
        refine DW.sole rfl rfl rfl (OW.call Tc79 rfl (level_div_ok (a0 := x2) (a1 := x4) hr1) ?_)
        rintro _ w2 ⟨rfl, E2⟩
        refine ⟨_, rfl, fun _ => E2, ModX.ext E2, ?_⟩
        replace H := H.grow E2
        replace R0 := H.ext
        replace hz := Nat.le_trans hz (Ext.size E2)
        refine DW.sole rfl rfl rfl (OW.buildSlice (e := 28) (vs := [.agg #[.int .i64 r1.num, .int .i64 r1.den]]) (cs := [.int .i64 r1.num, .int .i64 r1.den]) rfl (fun _ => by kernel_rfl) fun b1 w3 N1 => ?_)
        refine ⟨fun _ => N1.ext, ModX.ext N1.ext, ?_⟩
        have G0_b1 : wl3.heap.size ≤ b1 := by rw [N1.at_]; exact hz
        replace H := H.made' (k := 2) (t := 28) (enc := encRat) (l := ([r1] : List Rat)) N1 N1.blk (fun _ => rfl) rfl (by first | decide | omega | (simp; done) | (simp; omega))
        replace R0 := H.ext
        replace hz := Nat.le_trans hz (Ext.size N1.ext)
        refine DW.sole rfl rfl rfl (OW.appendG (enc := encRat) (l := l2) (xs := ([r1] : List Rat)) Ts53 rfl (look_slice rfl (by first | rfl | (simp; done) | (simp; omega))) (H.own 2 rfl) (H.own 0 rfl).sl (fun _ => rfl) rfl rfl hg1 (by decide) fun A2 c2 w4 O1 M1 D1 => ?_)
        refine ⟨fun h => absurd h (by decide), M1.modx (XB.own_ 1 (by decide) rfl), ?_⟩
        replace H : Hp wb w4 ([.own (some ⟨b1, 0, none⟩) ((([r1] : List Rat)).length) 28 2 (List.map encRat (([r1] : List Rat))), .tab A_a0 c_a0 53 hsm1 28 2 (encM encRat m1), .own A2 c2 28 2 (List.map encRat ((l2 ++ ([r1] : List Rat))))] ++ R) := H.mod 2 rfl M1 O1 D1
        replace R0 := H.ext
        replace hz := Nat.le_trans hz M1.size
        refine DW.thru rfl rfl rfl (fun _ EQ => RV.assign rfl) ?_
        refine DW.nil (hK8 _ _ ?_)
        obtain ⟨hg2, F⟩ := gd_some F
        refine CW.region ?_
        refine LW.pure rfl rfl (RV.add rfl rfl hg2) ?_
        refine LW.pure rfl rfl (RV.move rfl) ?_
        refine LW.nil ?_
        replace H := H.pickR (C := [.own (some ⟨b1, 0, none⟩) ((([r1] : List Rat)).length) 28 2 (List.map encRat (([r1] : List Rat))), .tab A_a0 c_a0 53 hsm1 28 2 (encM encRat m1), .own A2 c2 28 2 (List.map encRat ((l2 ++ ([r1] : List Rat))))]) (C' := [.tab A_a0 c_a0 53 hsm1 28 2 (encM encRat m1), .own A2 c2 28 2 (List.map encRat ((l2 ++ ([r1] : List Rat))))]) [1, 2] (by decide) rfl
        replace R0 := H.ext
        subst hrec1
        refine ⟨mk1, Nat.lt_succ_self _, _, ?_, (t109_1 + 1), ((l2 ++ ([r1] : List Rat))), A2, c2, F, rfl, H⟩
        exact ⟨(look_slice rfl (by first | rfl | (simp; done) | omega | (simp; omega))), rfl, (look_slice rfl (by first | rfl | (simp; done) | omega | (simp; omega))), rfl, rfl, trivial⟩
      ·
        replace F := ite_n hp1 F
        have hq1 := dec_f hp1
        refine CW.condF rfl hq1 ?_
        replace H := H.pickR (C := [.tab A_a0 c_a0 53 hsm1 28 2 (encM encRat m1), .own Al2 cl2 28 2 (List.map encRat l2)]) (C' := [.own Al2 cl2 28 2 (List.map encRat l2), .tab A_a0 c_a0 53 hsm1 28 2 (encM encRat m1)]) [1, 0] (by decide) rfl
        replace R0 := H.ext
        refine CW.exit (jK2058 _ _ ⟨_, ?_, ⟨l2, Al2, cl2, F, rfl, H⟩⟩)
        exact ⟨rfl, (look_slice rfl (by first | rfl | (simp; done) | omega | (simp; omega))), trivial⟩
  ·
    intro K10 hK10 jK2072
    refine CW.seq fun K11 hK11 => ?_
    refine CW.region ?_
    refine LW.pure rfl rfl (RV.move rfl) ?_
    refine LW.pure rfl rfl (RV.len Ts101 rfl) ?_
    refine LW.pure rfl rfl (RV.move rfl) ?_
    refine LW.nil (hK11 _ _ ?_)
    refine CW.block ?_
    refine CW.loop (fun meas ρ wl4 => ∃ (t12_1 : Int) (m6 : List (List Rat)) (hsm6 : List (Option Addr × Nat)), level_solve_L5 a0 meas t12_1 m6 = some res ∧ ρ = [(0, .slice A_a0 m6.length c_a0), (2, .slice none 0 0), (11, .int .i64 ((a0.length : Int))), (12, .int .i64 t12_1)] ∧ Hp wb wl4 ([.tab A_a0 c_a0 53 hsm6 28 2 (encM encRat m6)] ++ R) ∧ m6.length = a0.length ∧ Cov hsm6 hs_a0) FU ⟨_, ?_, ((0 : Int)), a0, hs_a0, F, rfl, H, (show a0.length = a0.length by first | rfl | assumption | omega | (simp; done) | (simp; assumption) | (simp; omega)), (show Cov hs_a0 hs_a0 by first | exact Cov.refl _ | assumption | (refine Cov.trans (Cov.swap ?_ ?_) ?_ <;> assumption) | (refine Cov.swap ?_ ?_ <;> assumption))⟩ ?_
    · exact ⟨(look_slice rfl (by first | rfl | (simp; done) | omega | (simp; omega))), rfl, rfl, rfl, trivial⟩
    rintro mk2 _ wl4 ⟨t12_1, m6, hsm6, F, rfl, H, hl2, hcv2⟩
    have R0 := H.ext
    replace F := level_solve_L5_s F
    obtain ⟨mk2, rfl, F⟩ := F
    generalize hrec2 : level_solve_L5 a0 mk2 = rec2 at F
    unfold level_solve_B5 at F
    refine CW.seq fun K12 hK12 => ?_
    refine CW.region ?_
    refine LW.pure rfl rfl (RV.lss rfl rfl) ?_
    refine LW.nil (hK12 _ _ ?_)
    refine CW.seq fun K13 hK13 => ?_
    by_cases hp2 : t12_1 < ((a0.length : Int))
    ·
      replace F := ite_y hp2 F
      have hq2 := dec_t hp2
      refine CW.condT rfl hq2 ?_
      refine CW.skip (hK13 _ _ ?_)
      refine CW.seqJ (fun ρ wl5 => (∃ (m2 : List (List Rat)) (hsm2 : List (Option Addr × Nat)), level_solve_k3 t12_1 rec2 m2 = some res ∧ ρ = [(0, .slice A_a0 m2.length c_a0), (2, .slice none 0 0), (11, .int .i64 ((a0.length : Int))), (12, .int .i64 t12_1)] ∧ Hp wb wl5 ([.tab A_a0 c_a0 53 hsm2 28 2 (encM encRat m2)] ++ R) ∧ m2.length = a0.length ∧ Cov hsm2 hs_a0)) ?_ ?_
      ·
        rintro _ wl5 ⟨m2, hsm2, F, rfl, H, hl3, hcv3⟩
        have R0 := H.ext
        unfold level_solve_k3 at F
        obtain ⟨hg3, F⟩ := gd_some F
        refine CW.region ?_
        refine LW.pure rfl rfl (RV.add rfl rfl hg3) ?_
        refine LW.pure rfl rfl (RV.move rfl) ?_
        refine LW.nil ?_
        subst hrec2
        refine ⟨mk2, Nat.lt_succ_self _, _, ?_, (t12_1 + 1), m2, hsm2, F, rfl, H, (show m2.length = a0.length by first | rfl | assumption | omega | (simp; done) | (simp; assumption) | (simp; omega)), (show Cov hsm2 hs_a0 by first | exact Cov.refl _ | assumption | (refine Cov.trans (Cov.swap ?_ ?_) ?_ <;> assumption) | (refine Cov.swap ?_ ?_ <;> assumption))⟩
        exact ⟨(look_slice rfl (by first | rfl | (simp; done) | omega | (simp; omega))), rfl, rfl, rfl, trivial⟩
      ·
        intro K14 hK14 jK2632
        refine CW.block ?_
        refine CW.seq fun K15 hK15 => ?_
        refine CW.region ?_
        refine LW.pure rfl rfl (RV.move rfl) ?_
        refine LW.pure rfl rfl (RV.assign rfl) ?_
        refine LW.nil (hK15 _ _ ?_)
        refine CW.seq fun K16 hK16 => ?_
        refine CW.region ?_
        refine LW.pure rfl rfl (RV.move rfl) ?_
        refine LW.pure rfl rfl (RV.assign rfl) ?_
        refine LW.nil (hK16 _ _ ?_)
        refine CW.seqJ (fun ρ wl6 => (∃ (t4_1 : Int), level_solve_k7 t12_1 m6 rec2 t4_1 = some res ∧ ρ = [(0, .slice A_a0 m6.length c_a0), (2, .slice none 0 0), (3, .int .i64 t12_1), (4, .int .i64 t4_1), (11, .int .i64 ((a0.length : Int))), (12, .int .i64 t12_1)] ∧ Hp wb wl6 ([.tab A_a0 c_a0 53 hsm6 28 2 (encM encRat m6)] ++ R))) ?_ ?_
        ·
          rintro _ wl6 ⟨t4_1, F, rfl, H⟩
          have R0 := H.ext
          unfold level_solve_k7 at F
          refine CW.seq fun K17 hK17 => ?_
          obtain ⟨x17, hbx17, hx17, F⟩ := ix_some F
          obtain ⟨x18, hbx18, hx18, F⟩ := ix_some F
          obtain ⟨x19, hbx19, hx19, F⟩ := ix_some F
          obtain ⟨x20, hbx20, hx20, F⟩ := ix_some F
          refine CW.draw [13, 15] (fun _ => True) (.cons 0 1 (.cons 1 1 (.cons 4 1 (.cons 5 1 (.cons 6 1 (.cons 7 1 (.cons 2 2 (.cons 3 2 (.cons 8 2 (.cons 9 2 (.cons 10 2 (.cons 11 1 (.cons 12 1 (.cons 13 0 (.cons 14 2 (.cons 15 0 .nil)))))))))))))))) mixed (by kernel_rfl) fun w5 E3 => ?_
          replace H := H.grow E3
          replace R0 := H.ext
          refine DW.fix rfl rfl rfl (fun _ EQ => RV.move rfl) ?_
          refine DW.fix rfl rfl rfl (fun _ EQ => RV.move rfl) ?_
          refine DW.fix rfl rfl rfl (fun _ EQ => RV.move rfl) ?_
          refine DW.fix rfl rfl rfl (fun _ EQ => RV.move rfl) ?_
          obtain ⟨B3, e3, hh3⟩ := (H.tab 0 rfl).hd hx17
          refine DW.fix rfl rfl rfl (fun _ EQ => RV.indexAddr Ts101 rfl rfl hbx17 ((H.tab 0 rfl).addr_ hx17)) ?_
          refine DW.fix rfl rfl rfl (fun _ EQ => RV.load1 Tk53 rfl (((H.grow EQ).tab 0 rfl).cell hx17 hh3) rfl) ?_
          refine DW.thru rfl rfl rfl (fun _ EQ => RV.move rfl) ?_
          refine DW.thru rfl rfl rfl (fun _ EQ => RV.move rfl) ?_
          refine DW.thru rfl rfl rfl (fun _ EQ => RV.move rfl) ?_
          refine DW.thru rfl rfl rfl (fun _ EQ => RV.move rfl) ?_
          obtain ⟨B4, e4, hh4⟩ := (H.tab 0 rfl).hd hx18
          refine DW.thru rfl rfl rfl (fun _ EQ => RV.indexAddr Ts101 rfl rfl hbx18 ((H.tab 0 rfl).addr_ hx18)) ?_
          refine DW.fix rfl rfl rfl (fun _ EQ => RV.load1 Tk53 rfl (((H.grow EQ).tab 0 rfl).cell hx18 hh4) rfl) ?_
          obtain ⟨B5, e5, hh5⟩ := (H.tab 0 rfl).hd hx19
          refine DW.fix rfl rfl rfl (fun _ EQ => RV.indexAddr Ts101 rfl rfl hbx19 ((H.tab 0 rfl).addr_ hx19)) ?_
          refine DW.sole rfl rfl rfl (OW.storeO (enc := encH) (vs := [.slice B3 x17.length e3]) 0 ((B3, e3), List.map encRat x17) Tk53 rfl rfl (H.tab 0 rfl).outer (fun _ => rfl) rfl ((H.tab 0 rfl).zipAt hx19 hh5) rfl rfl (by decide) rfl (by simp [encH, over]) fun w6 M2 O2 => ?_)
          refine ⟨fun h => absurd h (by decide), M2.modx (fun _ _ => trivial), ?_⟩
          obtain ⟨B6, e6, hh6⟩ := (H.tab 0 rfl).hd hx20
          refine DW.thru rfl rfl rfl (fun _ EQ => RV.indexAddr Ts101 rfl rfl hbx20 ((H.tab 0 rfl).addr_ hx20)) ?_
          obtain ⟨y1, hy1⟩ := set_at_ex (l := (hsm6.zip (encM encRat m6))) (i := Int.toNat t12_1) (a := ((B3, e3), List.map encRat x17)) ((H.tab 0 rfl).zipAt hx20 hh6)
          refine DW.sole rfl rfl rfl (OW.storeO (enc := encH) (vs := [.slice B4 x18.length e4]) 0 ((B4, e4), List.map encRat x18) Tk53 rfl rfl O2 (fun _ => rfl) rfl hy1 rfl rfl (by decide) rfl (by simp [encH, over]) fun w7 M3 O3 => ?_)
          refine ⟨fun h => absurd h (by decide), M3.modx (fun _ _ => trivial), ?_⟩
          replace H : Hp wb w7 ([.tab A_a0 c_a0 53 (((hsm6.set (Int.toNat t12_1) (B3, e3)).set (Int.toNat t4_1) (B4, e4))) 28 2 (encM encRat (((m6.set (Int.toNat t12_1) x17).set (Int.toNat t4_1) x18)))] ++ R) := H.tabSwap (i := Int.toNat t12_1) (j := Int.toNat t4_1) 0 rfl (M2.trans M3) hx18 hx17 hh4 hh3 O3
          replace R0 := H.ext
          refine DW.nil (hK17 _ _ ?_)
          refine CW.seq fun K18 hK18 => ?_
          refine CW.region ?_
          refine LW.pure rfl rfl (RV.move rfl) ?_
          refine LW.pure rfl rfl (RV.len Ts101 rfl) ?_
          refine LW.pure rfl rfl (RV.move rfl) ?_
          refine LW.nil (hK18 _ _ ?_)
          refine CW.block ?_
          refine CW.loop (fun meas ρ wl7 => ∃ (t43_1 : Int) (m5 : List (List Rat)), level_solve_L3 t12_1 m6 rec2 meas t43_1 m5 = some res ∧ ρ = [(0, .slice A_a0 m5.length c_a0), (2, .slice none 0 0), (3, .int .i64 t12_1), (11, .int .i64 ((a0.length : Int))), (12, .int .i64 t12_1), (42, .int .i64 ((m6.length : Int))), (43, .int .i64 t43_1)] ∧ Hp wb wl7 ([.tab A_a0 c_a0 53 (((hsm6.set (Int.toNat t12_1) (B3, e3)).set (Int.toNat t4_1) (B4, e4))) 28 2 (encM encRat m5)] ++ R) ∧ m5.length = a0.length) FU ⟨_, ?_, ((0 : Int)), (((m6.set (Int.toNat t12_1) x17).set (Int.toNat t4_1) x18)), F, rfl, H, (show (((m6.set (Int.toNat t12_1) x17).set (Int.toNat t4_1) x18)).length = a0.length by first | rfl | assumption | omega | (simp; done) | (simp; assumption) | (simp; omega))⟩ ?_
          · exact ⟨(look_slice rfl (by first | rfl | (simp; done) | omega | (simp; omega))), rfl, rfl, rfl, rfl, rfl, rfl, trivial⟩
          rintro mk3 _ wl7 ⟨t43_1, m5, F, rfl, H, hl4⟩
          have R0 := H.ext
          replace F := level_solve_L3_s F
          obtain ⟨mk3, rfl, F⟩ := F
          generalize hrec3 : level_solve_L3 t12_1 m6 rec2 mk3 = rec3 at F
          unfold level_solve_B3 at F
          refine CW.seq fun K19 hK19 => ?_
          refine CW.region ?_
          refine LW.pure rfl rfl (RV.lss rfl rfl) ?_
          refine LW.nil (hK19 _ _ ?_)
          refine CW.seq fun K20 hK20 => ?_
          by_cases hp3 : t43_1 < ((m6.length : Int))
          ·
            replace F := ite_y hp3 F
            have hq3 := dec_t hp3
            refine CW.condT rfl hq3 ?_
            refine CW.skip (hK20 _ _ ?_)
            refine CW.seqJ (fun ρ wl8 => (∃ (m3 : List (List Rat)), level_solve_k4 t43_1 rec3 m3 = some res ∧ ρ = [(0, .slice A_a0 m3.length c_a0), (2, .slice none 0 0), (3, .int .i64 t12_1), (11, .int .i64 ((a0.length : Int))), (12, .int .i64 t12_1), (42, .int .i64 ((m6.length : Int))), (43, .int .i64 t43_1)] ∧ Hp wb wl8 ([.tab A_a0 c_a0 53 (((hsm6.set (Int.toNat t12_1) (B3, e3)).set (Int.toNat t4_1) (B4, e4))) 28 2 (encM encRat m3)] ++ R) ∧ m3.length = a0.length)) ?_ ?_
            ·
              rintro _ wl8 ⟨m3, F, rfl, H, hl5⟩
              have R0 := H.ext
              unfold level_solve_k4 at F
              obtain ⟨hg4, F⟩ := gd_some F
              refine CW.region ?_
              refine LW.pure rfl rfl (RV.add rfl rfl hg4) ?_
              refine LW.pure rfl rfl (RV.move rfl) ?_
              refine LW.nil ?_
              subst hrec3
              refine ⟨mk3, Nat.lt_succ_self _, _, ?_, (t43_1 + 1), m3, F, rfl, H, (show m3.length = a0.length by first | rfl | assumption | omega | (simp; done) | (simp; assumption) | (simp; omega))⟩
              exact ⟨(look_slice rfl (by first | rfl | (simp; done) | omega | (simp; omega))), rfl, rfl, rfl, rfl, rfl, rfl, trivial⟩
            ·
              intro K21 hK21 jK2721
              refine CW.block ?_
              refine CW.seq fun K22 hK22 => ?_
              refine CW.region ?_
              refine LW.pure rfl rfl (RV.move rfl) ?_
              refine LW.pure rfl rfl (RV.assign rfl) ?_
              refine LW.nil (hK22 _ _ ?_)
              refine CW.seq fun K23 hK23 => ?_
              refine CW.seqJ (fun ρ wl9 => (∃ (t59_1 : Bool), level_solve_k6 t12_1 t43_1 m5 rec3 t59_1 = some res ∧ ρ = [(0, .slice A_a0 m5.length c_a0), (2, .slice none 0 0), (3, .int .i64 t12_1), (5, .int .i64 t43_1), (11, .int .i64 ((a0.length : Int))), (12, .int .i64 t12_1), (42, .int .i64 ((m6.length : Int))), (43, .int .i64 t43_1), (59, .bool t59_1)] ∧ Hp wb wl9 ([.tab A_a0 c_a0 53 (((hsm6.set (Int.toNat t12_1) (B3, e3)).set (Int.toNat t4_1) (B4, e4))) 28 2 (encM encRat m5)] ++ R))) ?_ ?_
              ·
                rintro _ wl9 ⟨t59_1, F, rfl, H⟩
                have R0 := H.ext
                unfold level_solve_k6 at F
                by_cases hp4 : t59_1 = true
                ·
                  replace F := ite_y hp4 F
                  have hq4 : t59_1 = true := hp4
                  refine CW.condT rfl hq4 ?_
                  refine CW.exit (jK2721 _ _ ⟨_, ?_, ⟨m5, F, rfl, H, (show m5.length = a0.length by first | rfl | assumption | omega | (simp; done) | (simp; assumption) | (simp; omega))⟩⟩)
                  exact ⟨(look_slice rfl (by first | rfl | (simp; done) | omega | (simp; omega))), rfl, rfl, rfl, rfl, rfl, rfl, trivial⟩
                ·
                  replace F := ite_n hp4 F
                  have hq4 : t59_1 = false := raw_f hp4
                  refine CW.condF rfl hq4 ?_
                  refine CW.skip (hK23 _ _ ?_)
                  refine CW.seqJ (fun ρ wl10 => (∃ (c0_0_1 : Int) (c0_1_1 : Int) (bk1 : Nat), level_solve_k5 t12_1 t43_1 m5 rec3 c0_0_1 c0_1_1 = some res ∧ ρ = [(0, .slice A_a0 m5.length c_a0), (2, .slice none 0 0), (3, .int .i64 t12_1), (5, .int .i64 t43_1), (6, .pointer (some (⟨bk1, 0, none⟩))), (11, .int .i64 ((a0.length : Int))), (12, .int .i64 t12_1), (42, .int .i64 ((m6.length : Int))), (43, .int .i64 t43_1)] ∧ Hp wb wl10 ([.tab A_a0 c_a0 53 (((hsm6.set (Int.toNat t12_1) (B3, e3)).set (Int.toNat t4_1) (B4, e4))) 28 2 (encM encRat m5), .blk bk1 28 [.int .i64 c0_0_1, .int .i64 c0_1_1]] ++ R))) ?_ ?_
                  ·
                    rintro _ wl10 ⟨c0_0_1, c0_1_1, bk1, F, rfl, H⟩
                    have R0 := H.ext
                    unfold level_solve_k5 at F
                    refine CW.seq fun K24 hK24 => ?_
                    refine CW.region ?_
                    refine LW.pure rfl rfl (RV.move rfl) ?_
                    refine LW.pure rfl rfl (RV.assign rfl) ?_
                    refine LW.nil (hK24 _ _ ?_)
                    refine CW.block ?_
                    refine CW.loop (fun meas ρ wl11 => ∃ (t7_1 : Int) (m4 : List (List Rat)), level_solve_L2 t12_1 t43_1 rec3 c0_0_1 c0_1_1 meas t7_1 m4 = some res ∧ ρ = [(0, .slice A_a0 m4.length c_a0), (2, .slice none 0 0), (3, .int .i64 t12_1), (5, .int .i64 t43_1), (6, .pointer (some (⟨bk1, 0, none⟩))), (7, .int .i64 t7_1), (11, .int .i64 ((a0.length : Int))), (12, .int .i64 t12_1), (42, .int .i64 ((m6.length : Int))), (43, .int .i64 t43_1)] ∧ Hp wb wl11 ([.tab A_a0 c_a0 53 (((hsm6.set (Int.toNat t12_1) (B3, e3)).set (Int.toNat t4_1) (B4, e4))) 28 2 (encM encRat m4), .blk bk1 28 [.int .i64 c0_0_1, .int .i64 c0_1_1]] ++ R) ∧ m4.length = a0.length) FU ⟨_, ?_, t12_1, m5, F, rfl, H, (show m5.length = a0.length by first | rfl | assumption | omega | (simp; done) | (simp; assumption) | (simp; omega))⟩ ?_
                    · exact ⟨(look_slice rfl (by first | rfl | (simp; done) | omega | (simp; omega))), rfl, rfl, rfl, rfl, rfl, rfl, rfl, rfl, rfl, trivial⟩
                    rintro mk4 _ wl11 ⟨t7_1, m4, F, rfl, H, hl6⟩
                    have R0 := H.ext
                    replace F := level_solve_L2_s F
                    obtain ⟨mk4, rfl, F⟩ := F
                    generalize hrec4 : level_solve_L2 t12_1 t43_1 rec3 c0_0_1 c0_1_1 mk4 = rec4 at F
                    unfold level_solve_B2 at F
                    refine CW.seq fun K25 hK25 => ?_
                    refine CW.seq fun K26 hK26 => ?_
                    refine CW.region ?_
                    refine LW.pure rfl rfl (RV.move rfl) ?_
                    refine LW.pure rfl rfl (RV.move rfl) ?_
                    refine LW.pure rfl rfl (RV.len Ts101 rfl) ?_
                    refine LW.pure rfl rfl (RV.leq rfl rfl) ?_
                    refine LW.nil (hK26 _ _ ?_)
                    by_cases hp5 : t7_1 ≤ ((m4.length : Int))
                    ·
                      replace F := ite_y hp5 F
                      have hq5 := dec_t hp5
                      refine CW.condT rfl hq5 ?_
                      refine CW.skip (hK25 _ _ ?_)
                      refine CW.seq fun K27 hK27 => ?_
                      refine CW.block ?_
                      obtain ⟨x5, hbx5, hx5, F⟩ := ix_some F
                      obtain ⟨x6, hbx6, hx6, F⟩ := ix_some F
                      obtain ⟨x7, hbx7, hx7, F⟩ := ix_some F
                      obtain ⟨x8, hbx8, hx8, F⟩ := ix_some F
                      obtain ⟨x9, hbx9, hx9, F⟩ := ix_some F
                      obtain ⟨r2, hr2, F⟩ := bnd_some F
                      obtain ⟨r3, hr3, F⟩ := bnd_some F
                      obtain ⟨x10, hbx10, hx10, F⟩ := ix_some F
                      refine CW.draw [23] (fun _ => True) (.cons 0 1 (.cons 1 1 (.cons 2 1 (.cons 3 1 (.cons 4 1 (.cons 5 1 (.cons 6 1 (.cons 7 1 (.cons 8 1 (.cons 9 1 (.cons 10 1 (.cons 11 1 (.cons 12 1 (.cons 13 1 (.cons 14 1 (.cons 15 1 (.cons 16 1 (.cons 17 1 (.cons 18 1 (.cons 19 1 (.cons 20 0 (.cons 21 0 (.cons 22 1 (.cons 23 0 .nil)))))))))))))))))))))))) mixed (by kernel_rfl) fun w8 E4 => ?_
                      replace H := H.grow E4
                      replace R0 := H.ext
                      refine DW.fix rfl rfl rfl (fun _ EQ => RV.move rfl) ?_
                      refine DW.fix rfl rfl rfl (fun _ EQ => RV.move rfl) ?_
                      obtain ⟨B7, e7, hh7⟩ := (H.tab 0 rfl).hd hx5
                      refine DW.fix rfl rfl rfl (fun _ EQ => RV.indexAddr Ts101 rfl rfl hbx5 ((H.tab 0 rfl).addr_ hx5)) ?_
                      refine DW.fix rfl rfl rfl (fun _ EQ => RV.load1 Tk53 rfl (((H.grow EQ).tab 0 rfl).cell hx5 hh7) rfl) ?_
                      refine DW.fix rfl rfl rfl (fun _ EQ => RV.move rfl) ?_
                      refine DW.fix rfl rfl rfl (fun _ EQ => RV.move rfl) ?_
                      refine DW.fix rfl rfl rfl (fun _ EQ => RV.move rfl) ?_
                      obtain ⟨B8, e8, hh8⟩ := (H.tab 0 rfl).hd hx6
                      refine DW.fix rfl rfl rfl (fun _ EQ => RV.indexAddr Ts101 rfl rfl hbx6 ((H.tab 0 rfl).addr_ hx6)) ?_
                      refine DW.fix rfl rfl rfl (fun _ EQ => RV.load1 Tk53 rfl (((H.grow EQ).tab 0 rfl).cell hx6 hh8) rfl) ?_
                      refine DW.fix rfl rfl rfl (fun _ EQ => RV.move rfl) ?_
                      refine DW.fix rfl rfl rfl (fun _ EQ => RV.indexAddr Ts53 rfl rfl hbx7 (((H.tab 0 rfl).rowO hx6 hh8).sl.addr_ hx7)) ?_
                      refine DW.fix rfl rfl rfl (fun _ EQ => RV.loadA [.int .i64 x7.num, .int .i64 x7.den] Tk28 rfl ((((H.grow EQ).tab 0 rfl).rowO hx6 hh8).sl.at_ hx7) rfl rfl) ?_
                      refine DW.fix rfl rfl rfl (fun _ EQ => RV.loadA [.int .i64 c0_0_1, .int .i64 c0_1_1] Tk28 rfl ((H.grow EQ).blk 1 rfl).cells rfl rfl) ?_
                      refine DW.fix rfl rfl rfl (fun _ EQ => RV.move rfl) ?_
                      refine DW.fix rfl rfl rfl (fun _ EQ => RV.move rfl) ?_
                      obtain ⟨B9, e9, hh9⟩ := (H.tab 0 rfl).hd hx8
                      refine DW.fix rfl rfl rfl (fun _ EQ => RV.indexAddr Ts101 rfl rfl hbx8 ((H.tab 0 rfl).addr_ hx8)) ?_
                      refine DW.fix rfl rfl rfl (fun _ EQ => RV.load1 Tk53 rfl (((H.grow EQ).tab 0 rfl).cell hx8 hh9) rfl) ?_
                      refine DW.fix rfl rfl rfl (fun _ EQ => RV.move rfl) ?_
                      refine DW.fix rfl rfl rfl (fun _ EQ => RV.indexAddr Ts53 rfl rfl hbx9 (((H.tab 0 rfl).rowO hx8 hh9).sl.addr_ hx9)) ?_
                      refine DW.fix rfl rfl rfl (fun _ EQ => RV.loadA [.int .i64 x9.num, .int .i64 x9.den] Tk28 rfl ((((H.grow EQ).tab 0 rfl).rowO hx8 hh9).sl.at_ hx9) rfl rfl) ?_
                      refine DW.sole rfl rfl rfl (OW.call Tc73 rfl (level_mul_ok (a0 := (⟨c0_0_1, c0_1_1⟩ : Rat)) (a1 := x9) hr2) ?_)
                      rintro _ w9 ⟨rfl, E5⟩
                      refine ⟨_, rfl, fun _ => E5, ModX.ext E5, ?_⟩
                      replace H := H.grow E5
                      replace R0 := H.ext
                      refine DW.sole rfl rfl rfl (OW.call Tc105 rfl (level_sub_ok (a0 := x7) (a1 := r2) hr3) ?_)
                      rintro _ w10 ⟨rfl, E6⟩
                      refine ⟨_, rfl, fun _ => E6, ModX.ext E6, ?_⟩
                      replace H := H.grow E6
                      replace R0 := H.ext
                      refine DW.fix rfl rfl rfl (fun _ EQ => RV.indexAddr Ts53 rfl rfl hbx10 (((H.tab 0 rfl).rowO hx5 hh7).sl.addr_ hx10)) ?_
                      refine DW.sole rfl rfl rfl (OW.storeO (enc := encRat) (vs := [.int .i64 r3.num, .int .i64 r3.den]) 0 (r3) Tk28 rfl rfl ((H.tab 0 rfl).rowO hx5 hh7) (fun _ => rfl) rfl hx10 rfl rfl (by decide) rfl rfl fun w11 M4 O4 => ?_)
                      refine ⟨fun h => absurd h (by decide), M4.modx (fun _ _ => trivial), ?_⟩
                      replace H : Hp wb w11 ([.tab A_a0 c_a0 53 (((hsm6.set (Int.toNat t12_1) (B3, e3)).set (Int.toNat t4_1) (B4, e4))) 28 2 (encM encRat ((m4.set (Int.toNat t43_1) (x5.set (Int.toNat t7_1) r3)))), .blk bk1 28 [.int .i64 c0_0_1, .int .i64 c0_1_1]] ++ R) := H.tabRow 0 rfl hh7 hx5 (by simp) M4 O4
                      replace R0 := H.ext
                      have hrw1 : ((m4.set (Int.toNat t43_1) (x5.set (Int.toNat t7_1) r3)))[Int.toNat t43_1]? = some (x5.set (Int.toNat t7_1) r3) := List.getElem?_set_self (lt_of_at hx5)
                      refine DW.nil (hK27 _ _ ?_)
                      obtain ⟨hg5, F⟩ := gd_some F
                      refine CW.region ?_
                      refine LW.pure rfl rfl (RV.move rfl) ?_
                      refine LW.pure rfl rfl (RV.add rfl rfl hg5) ?_
                      refine LW.pure rfl rfl (RV.assign rfl) ?_
                      refine LW.nil ?_
                      subst hrec4
                      refine ⟨mk4, Nat.lt_succ_self _, _, ?_, (t7_1 + 1), ((m4.set (Int.toNat t43_1) (x5.set (Int.toNat t7_1) r3))), F, rfl, H, (show ((m4.set (Int.toNat t43_1) (x5.set (Int.toNat t7_1) r3))).length = a0.length by first | rfl | assumption | omega | (simp; done) | (simp; assumption) | (simp; omega))⟩
                      exact ⟨(look_slice rfl (by first | rfl | (simp; done) | omega | (simp; omega))), rfl, rfl, rfl, rfl, rfl, rfl, rfl, rfl, rfl, trivial⟩
                    ·
                      replace F := ite_n hp5 F
                      have hq5 := dec_f hp5
                      refine CW.condF rfl hq5 ?_
                      replace H := H.pickR (C := [.tab A_a0 c_a0 53 (((hsm6.set (Int.toNat t12_1) (B3, e3)).set (Int.toNat t4_1) (B4, e4))) 28 2 (encM encRat m4), .blk bk1 28 [.int .i64 c0_0_1, .int .i64 c0_1_1]]) (C' := [.tab A_a0 c_a0 53 (((hsm6.set (Int.toNat t12_1) (B3, e3)).set (Int.toNat t4_1) (B4, e4))) 28 2 (encM encRat m4)]) [0] (by decide) rfl
                      replace R0 := H.ext
                      refine CW.exit (jK2721 _ _ ⟨_, ?_, ⟨m4, F, rfl, H, (show m4.length = a0.length by first | rfl | assumption | omega | (simp; done) | (simp; assumption) | (simp; omega))⟩⟩)
                      exact ⟨(look_slice rfl (by first | rfl | (simp; done) | omega | (simp; omega))), rfl, rfl, rfl, rfl, rfl, rfl, trivial⟩
                  ·
                    intro K28 hK28 jK2734
                    obtain ⟨x11, hbx11, hx11, F⟩ := ix_some F
                    obtain ⟨x12, hbx12, hx12, F⟩ := ix_some F
                    obtain ⟨x13, hbx13, hx13, F⟩ := ix_some F
                    obtain ⟨x14, hbx14, hx14, F⟩ := ix_some F
                    obtain ⟨r4, hr4, F⟩ := bnd_some F
                    refine CW.draw [16] (fun _ => True) (.cons 0 1 (.cons 1 1 (.cons 2 1 (.cons 3 1 (.cons 4 1 (.cons 5 1 (.cons 6 1 (.cons 7 1 (.cons 8 1 (.cons 9 1 (.cons 10 1 (.cons 11 1 (.cons 12 1 (.cons 13 1 (.alt 14 (.cons 15 0 (.cons 16 0 .nil)) (.cons 15 0 (.cons 14 0 (.cons 16 0 .nil)))))))))))))))))) mixed (by kernel_rfl) fun w12 E7 => ?_
                    replace H := H.grow E7
                    replace R0 := H.ext
                    refine DW.fix rfl rfl rfl (fun _ EQ => RV.move rfl) ?_
                    refine DW.fix rfl rfl rfl (fun _ EQ => RV.move rfl) ?_
                    obtain ⟨B10, e10, hh10⟩ := (H.tab 0 rfl).hd hx11
                    refine DW.fix rfl rfl rfl (fun _ EQ => RV.indexAddr Ts101 rfl rfl hbx11 ((H.tab 0 rfl).addr_ hx11)) ?_
                    refine DW.fix rfl rfl rfl (fun _ EQ => RV.load1 Tk53 rfl (((H.grow EQ).tab 0 rfl).cell hx11 hh10) rfl) ?_
                    refine DW.fix rfl rfl rfl (fun _ EQ => RV.move rfl) ?_
                    refine DW.fix rfl rfl rfl (fun _ EQ => RV.indexAddr Ts53 rfl rfl hbx12 (((H.tab 0 rfl).rowO hx11 hh10).sl.addr_ hx12)) ?_
                    refine DW.fix rfl rfl rfl (fun _ EQ => RV.loadA [.int .i64 x12.num, .int .i64 x12.den] Tk28 rfl ((((H.grow EQ).tab 0 rfl).rowO hx11 hh10).sl.at_ hx12) rfl rfl) ?_
                    refine DW.fix rfl rfl rfl (fun _ EQ => RV.move rfl) ?_
                    refine DW.fix rfl rfl rfl (fun _ EQ => RV.move rfl) ?_
                    obtain ⟨B11, e11, hh11⟩ := (H.tab 0 rfl).hd hx13
                    refine DW.fix rfl rfl rfl (fun _ EQ => RV.indexAddr Ts101 rfl rfl hbx13 ((H.tab 0 rfl).addr_ hx13)) ?_
                    refine DW.fix rfl rfl rfl (fun _ EQ => RV.load1 Tk53 rfl (((H.grow EQ).tab 0 rfl).cell hx13 hh11) rfl) ?_
                    refine DW.fix rfl rfl rfl (fun _ EQ => RV.move rfl) ?_
                    refine DW.fix rfl rfl rfl (fun _ EQ => RV.indexAddr Ts53 rfl rfl hbx14 (((H.tab 0 rfl).rowO hx13 hh11).sl.addr_ hx14)) ?_
                    refine DW.fix rfl rfl rfl (fun _ EQ => RV.loadA [.int .i64 x14.num, .int .i64 x14.den] Tk28 rfl ((((H.grow EQ).tab 0 rfl).rowO hx13 hh11).sl.at_ hx14) rfl rfl) ?_
                    refine DW.alt ?_ ?_
                    ·
                      refine DW.sole rfl rfl rfl (OW.call Tc79 rfl (level_div_ok (a0 := x12) (a1 := x14) hr4) ?_)
                      rintro _ w13 ⟨rfl, E8⟩
                      refine ⟨_, rfl, fun _ => E8, ModX.ext E8, ?_⟩
                      replace H := H.grow E8
                      replace R0 := H.ext
                      refine DW.sole rfl rfl rfl (OW.alloc Tz28 fun b2 w14 N2 => ?_)
                      refine ⟨fun _ => N2.ext, ModX.ext N2.ext, ?_⟩
                      replace H := H.new N2 N2.blk
                      replace R0 := H.ext
                      refine DW.sole rfl rfl rfl (OW.store Tk28 rfl rfl (H.blk 0 rfl) (off := 0) (vs := [.int .i64 r4.num, .int .i64 r4.den]) rfl rfl rfl rfl rfl fun w15 S1 => ?_)
                      refine ⟨fun h => absurd h (by decide), S1.modx trivial, ?_⟩
                      replace H : Hp wb w15 ([.blk b2 28 [.int .i64 r4.num, .int .i64 r4.den], .tab A_a0 c_a0 53 (((hsm6.set (Int.toNat t12_1) (B3, e3)).set (Int.toNat t4_1) (B4, e4))) 28 2 (encM encRat m5)] ++ R) := H.stored 0 rfl S1
                      replace R0 := H.ext
                      replace H := H.pickR (C := [.blk b2 28 [.int .i64 r4.num, .int .i64 r4.den], .tab A_a0 c_a0 53 (((hsm6.set (Int.toNat t12_1) (B3, e3)).set (Int.toNat t4_1) (B4, e4))) 28 2 (encM encRat m5)]) (C' := [.tab A_a0 c_a0 53 (((hsm6.set (Int.toNat t12_1) (B3, e3)).set (Int.toNat t4_1) (B4, e4))) 28 2 (encM encRat m5), .blk b2 28 [.int .i64 r4.num, .int .i64 r4.den]]) [1, 0] (by decide) rfl
                      replace R0 := H.ext
                      refine DW.nil (jK2734 _ _ ⟨_, ?_, ⟨r4.num, r4.den, b2, F, rfl, H⟩⟩)
                      exact ⟨(look_slice rfl (by first | rfl | (simp; done) | omega | (simp; omega))), rfl, rfl, rfl, rfl, rfl, rfl, rfl, rfl, trivial⟩
                    ·
                      refine DW.sole rfl rfl rfl (OW.alloc Tz28 fun b3 w16 N3 => ?_)
                      refine ⟨fun _ => N3.ext, ModX.ext N3.ext, ?_⟩
                      replace H := H.new N3 N3.blk
                      replace R0 := H.ext
                      refine DW.sole rfl rfl rfl (OW.call Tc79 rfl (level_div_ok (a0 := x12) (a1 := x14) hr4) ?_)
                      rintro _ w17 ⟨rfl, E9⟩
                      refine ⟨_, rfl, fun _ => E9, ModX.ext E9, ?_⟩
                      replace H := H.grow E9
                      replace R0 := H.ext
                      refine DW.sole rfl rfl rfl (OW.store Tk28 rfl rfl (H.blk 0 rfl) (off := 0) (vs := [.int .i64 r4.num, .int .i64 r4.den]) rfl rfl rfl rfl rfl fun w18 S2 => ?_)
                      refine ⟨fun h => absurd h (by decide), S2.modx trivial, ?_⟩
                      replace H : Hp wb w18 ([.blk b3 28 [.int .i64 r4.num, .int .i64 r4.den], .tab A_a0 c_a0 53 (((hsm6.set (Int.toNat t12_1) (B3, e3)).set (Int.toNat t4_1) (B4, e4))) 28 2 (encM encRat m5)] ++ R) := H.stored 0 rfl S2
                      replace R0 := H.ext
                      replace H := H.pickR (C := [.blk b3 28 [.int .i64 r4.num, .int .i64 r4.den], .tab A_a0 c_a0 53 (((hsm6.set (Int.toNat t12_1) (B3, e3)).set (Int.toNat t4_1) (B4, e4))) 28 2 (encM encRat m5)]) (C' := [.tab A_a0 c_a0 53 (((hsm6.set (Int.toNat t12_1) (B3, e3)).set (Int.toNat t4_1) (B4, e4))) 28 2 (encM encRat m5), .blk b3 28 [.int .i64 r4.num, .int .i64 r4.den]]) [1, 0] (by decide) rfl
                      replace R0 := H.ext
                      refine DW.nil (jK2734 _ _ ⟨_, ?_, ⟨r4.num, r4.den, b3, F, rfl, H⟩⟩)
                      exact ⟨(look_slice rfl (by first | rfl | (simp; done) | omega | (simp; omega))), rfl, rfl, rfl, rfl, rfl, rfl, rfl, rfl, trivial⟩
              ·
                intro K29 hK29 jK2735
                by_cases hp6 : t43_1 = t12_1
                ·
                  replace F := ite_y hp6 F
                  have hq6 := dec_t hp6
                  refine CW.region ?_
                  refine LW.pure rfl rfl (RV.move rfl) ?_
                  refine LW.pure rfl rfl (RV.move rfl) ?_
                  refine LW.pure rfl rfl (RV.eqi rfl rfl) ?_
                  refine LW.pure rfl rfl (RV.move rfl) ?_
                  refine LW.noB rfl rfl rfl rfl (ne_beq (v := true) hq6 rfl) ?_
                  refine LW.noB rfl rfl rfl rfl (ne_beq (v := true) hq6 rfl) ?_
                  refine LW.noB rfl rfl rfl rfl (ne_beq (v := true) hq6 rfl) ?_
                  refine LW.noB rfl rfl rfl rfl (ne_beq (v := true) hq6 rfl) ?_
                  refine LW.noB rfl rfl rfl rfl (ne_beq (v := true) hq6 rfl) ?_
                  refine LW.noB rfl rfl rfl rfl (ne_beq (v := true) hq6 rfl) ?_
                  refine LW.noB rfl rfl rfl rfl (ne_beq (v := true) hq6 rfl) ?_
                  refine LW.noB rfl rfl rfl rfl (ne_beq (v := true) hq6 rfl) ?_
                  refine LW.noB rfl rfl rfl rfl (ne_beq (v := true) hq6 rfl) ?_
                  refine LW.pure rfl rfl (RV.pickTB rfl hq6 rfl) ?_
                  refine LW.nil (jK2735 _ _ ⟨_, ?_, ⟨true, F, rfl, H⟩⟩)
                  exact ⟨(look_slice rfl (by first | rfl | (simp; done) | omega | (simp; omega))), rfl, rfl, rfl, rfl, rfl, rfl, rfl, rfl, trivial⟩
                ·
                  replace F := ite_n hp6 F
                  have hq6 := dec_f hp6
                  obtain ⟨x15, hbx15, hx15, F⟩ := ix_some F
                  obtain ⟨x16, hbx16, hx16, F⟩ := ix_some F
                  refine CW.region ?_
                  refine LW.pure rfl rfl (RV.move rfl) ?_
                  refine LW.pure rfl rfl (RV.move rfl) ?_
                  refine LW.pure rfl rfl (RV.eqi rfl rfl) ?_
                  refine LW.pure rfl rfl (RV.move rfl) ?_
                  refine LW.pureYB rfl rfl rfl rfl hq6 (RV.move rfl) ?_
                  refine LW.pureYB rfl rfl rfl rfl hq6 (RV.move rfl) ?_
                  obtain ⟨B12, e12, hh12⟩ := (H.tab 0 rfl).hd hx15
                  refine LW.pureYB rfl rfl rfl rfl hq6 (RV.indexAddr Ts101 rfl rfl hbx15 ((H.tab 0 rfl).addr_ hx15)) ?_
                  refine LW.pureYB rfl rfl rfl rfl hq6 (RV.load1 Tk53 rfl ((H.tab 0 rfl).cell hx15 hh12) rfl) ?_
                  refine LW.pureYB rfl rfl rfl rfl hq6 (RV.move rfl) ?_
                  refine LW.pureYB rfl rfl rfl rfl hq6 (RV.indexAddr Ts53 rfl rfl hbx16 (((H.tab 0 rfl).rowO hx15 hh12).sl.addr_ hx16)) ?_
                  refine LW.pureYB rfl rfl rfl rfl hq6 (RV.fieldAddr Tf28_0 rfl) ?_
                  refine LW.pureYB rfl rfl rfl rfl hq6 (RV.load1 Tk3 rfl ((((H.tab 0 rfl).rowO hx15 hh12).sl.at_ hx16).off 0) rfl) ?_
                  refine LW.pureYB rfl rfl rfl rfl hq6 (RV.eqi rfl rfl) ?_
                  refine LW.pure rfl rfl (RV.pickFB rfl hq6 rfl) ?_
                  refine LW.nil (jK2735 _ _ ⟨_, ?_, ⟨(decide (x16.num = 0)), F, rfl, H⟩⟩)
                  exact ⟨(look_slice rfl (by first | rfl | (simp; done) | omega | (simp; omega))), rfl, rfl, rfl, rfl, rfl, rfl, rfl, rfl, trivial⟩
          ·
            replace F := ite_n hp3 F
            have hq3 := dec_f hp3
            refine CW.condF rfl hq3 ?_
            refine CW.exit (jK2632 _ _ ⟨_, ?_, ⟨m5, (((hsm6.set (Int.toNat t12_1) (B3, e3)).set (Int.toNat t4_1) (B4, e4))), F, rfl, H, (show m5.length = a0.length by first | rfl | assumption | omega | (simp; done) | (simp; assumption) | (simp; omega)), (show Cov (((hsm6.set (Int.toNat t12_1) (B3, e3)).set (Int.toNat t4_1) (B4, e4))) hs_a0 by first | exact Cov.refl _ | assumption | (refine Cov.trans (Cov.swap ?_ ?_) ?_ <;> assumption) | (refine Cov.swap ?_ ?_ <;> assumption))⟩⟩)
            exact ⟨(look_slice rfl (by first | rfl | (simp; done) | omega | (simp; omega))), rfl, rfl, rfl, trivial⟩
        ·
          intro K30 hK30 jK2736
          refine CW.block ?_
          refine CW.loop (fun meas ρ wl12 => ∃ (t4_2 : Int), level_solve_L4 t12_1 m6 rec2 meas t4_2 = some res ∧ ρ = [(0, .slice A_a0 m6.length c_a0), (2, .slice none 0 0), (3, .int .i64 t12_1), (4, .int .i64 t4_2), (11, .int .i64 ((a0.length : Int))), (12, .int .i64 t12_1)] ∧ Hp wb wl12 ([.tab A_a0 c_a0 53 hsm6 28 2 (encM encRat m6)] ++ R)) FU ⟨_, ?_, t12_1, F, rfl, H⟩ ?_
          · exact ⟨(look_slice rfl (by first | rfl | (simp; done) | omega | (simp; omega))), rfl, rfl, rfl, rfl, rfl, trivial⟩
          rintro mk5 _ wl12 ⟨t4_2, F, rfl, H⟩
          have R0 := H.ext
          replace F := level_solve_L4_s F
          obtain ⟨mk5, rfl, F⟩ := F
          generalize hrec5 : level_solve_L4 t12_1 m6 rec2 mk5 = rec5 at F
          unfold level_solve_B4 at F
          refine CW.seq fun K31 hK31 => ?_
          refine CW.seq fun K32 hK32 => ?_
          obtain ⟨x21, hbx21, hx21, F⟩ := ix_some F
          obtain ⟨x22, hbx22, hx22, F⟩ := ix_some F
          refine CW.region ?_
          refine LW.pure rfl rfl (RV.move rfl) ?_
          refine LW.pure rfl rfl (RV.move rfl) ?_
          obtain ⟨B13, e13, hh13⟩ := (H.tab 0 rfl).hd hx21
          refine LW.pure rfl rfl (RV.indexAddr Ts101 rfl rfl hbx21 ((H.tab 0 rfl).addr_ hx21)) ?_
          refine LW.pure rfl rfl (RV.load1 Tk53 rfl ((H.tab 0 rfl).cell hx21 hh13) rfl) ?_
          refine LW.pure rfl rfl (RV.move rfl) ?_
          refine LW.pure rfl rfl (RV.indexAddr Ts53 rfl rfl hbx22 (((H.tab 0 rfl).rowO hx21 hh13).sl.addr_ hx22)) ?_
          refine LW.pure rfl rfl (RV.fieldAddr Tf28_0 rfl) ?_
          refine LW.pure rfl rfl (RV.load1 Tk3 rfl ((((H.tab 0 rfl).rowO hx21 hh13).sl.at_ hx22).off 0) rfl) ?_
          refine LW.pure rfl rfl (RV.eqi rfl rfl) ?_
          refine LW.nil (hK32 _ _ ?_)
          by_cases hp7 : x22.num = 0
          ·
            replace F := ite_y hp7 F
            have hq7 := dec_t hp7
            refine CW.condT rfl hq7 ?_
            refine CW.skip (hK31 _ _ ?_)
            refine CW.block ?_
            obtain ⟨hg6, F⟩ := gd_some F
            refine CW.region ?_
            refine LW.pure rfl rfl (RV.move rfl) ?_
            refine LW.pure rfl rfl (RV.add rfl rfl hg6) ?_
            refine LW.pure rfl rfl (RV.assign rfl) ?_
            refine LW.nil ?_
            subst hrec5
            refine ⟨mk5, Nat.lt_succ_self _, _, ?_, (t4_2 + 1), F, rfl, H⟩
            exact ⟨(look_slice rfl (by first | rfl | (simp; done) | omega | (simp; omega))), rfl, rfl, rfl, rfl, rfl, trivial⟩
          ·
            replace F := ite_n hp7 F
            have hq7 := dec_f hp7
            refine CW.condF rfl hq7 ?_
            refine CW.exit (jK2736 _ _ ⟨_, ?_, ⟨t4_2, F, rfl, H⟩⟩)
            exact ⟨(look_slice rfl (by first | rfl | (simp; done) | omega | (simp; omega))), rfl, rfl, rfl, rfl, rfl, trivial⟩
    ·
      replace F := ite_n hp2 F
      have hq2 := dec_f hp2
      refine CW.condF rfl hq2 ?_
      refine CW.exit (jK2072 _ _ ⟨_, ?_, ⟨m6, hsm6, F, rfl, H, (show m6.length = a0.length by first | rfl | assumption | omega | (simp; done) | (simp; assumption) | (simp; omega)), (show Cov hsm6 hs_a0 by first | exact Cov.refl _ | assumption | (refine Cov.trans (Cov.swap ?_ ?_) ?_ <;> assumption) | (refine Cov.swap ?_ ?_ <;> assumption))⟩⟩)
      exact ⟨(look_slice rfl (by first | rfl | (simp; done) | omega | (simp; omega))), rfl, trivial⟩
end Go.D1

set_option linter.unusedVariables false
set_option linter.unusedSimpArgs false
namespace Go.D1
open Go.Tb Go.Proofs Go.RowKit
theorem Tc103 : callable Try.prog 103 = true := by kernel_rfl
theorem Tc25 : callable Try.prog 25 = true := by kernel_rfl
theorem Tc63 : callable Try.prog 63 = true := by kernel_rfl
theorem Tc66 : callable Try.prog 66 = true := by kernel_rfl
theorem Tc95 : callable Try.prog 95 = true := by kernel_rfl
theorem Tc96 : callable Try.prog 96 = true := by kernel_rfl
theorem Tc97 : callable Try.prog 97 = true := by kernel_rfl
theorem Tc98 : callable Try.prog 98 = true := by kernel_rfl
set_option maxRecDepth 20000 in
set_option maxHeartbeats 1000000 in
theorem level_resist_ok {a0 : Survey} {a1 : Int} {a2 : Int} {A_a0_readings : Option Addr} {c_a0_readings : Nat} {w : World} {res : Rat} (h_a0_readings : Sl w A_a0_readings c_a0_readings 4 (a0.readings.map encReading)) (F : level_resist a0 a1 a2 = some res) : Calls Try.prog 63 #[.agg #[.int .i64 a0.points, .slice A_a0_readings a0.readings.length c_a0_readings], .int .i64 a1, .int .i64 a2] w (Rt w (.agg #[.int .i64 res.num, .int .i64 res.den])) := by
  refine calls_of_cw (args := [.agg #[.int .i64 a0.points, .slice A_a0_readings a0.readings.length c_a0_readings], .int .i64 a1, .int .i64 a2]) Try.func63 rfl rfl rfl rfl ?_
  have H := Hp.start w
  have R0 := H.ext
  unfold level_resist at F
  refine CW.seq fun K1 hK1 => ?_
  refine CW.region ?_
  refine LW.go rfl rfl (OW.box rfl fun b1 w1 N1 => ?_)
  replace H := H.new N1 N1.blk
  replace R0 := H.ext
  refine LW.go rfl rfl (OW.box rfl fun b2 w2 N2 => ?_)
  replace H := H.new N2 N2.blk
  replace R0 := H.ext
  refine LW.go rfl rfl (OW.alloc Tz28 fun b3 w3 N3 => ?_)
  replace H := H.new N3 N3.blk
  replace R0 := H.ext
  refine LW.nil (hK1 _ _ ?_)
  refine CW.seq fun K2 hK2 => ?_
  refine CW.seq fun K3 hK3 => ?_
  refine CW.region ?_
  refine LW.pure rfl rfl (RV.load1 Tk3 rfl (H.blk 1 rfl).cells rfl) ?_
  refine LW.pure rfl rfl (RV.move rfl) ?_
  refine LW.pure rfl rfl (RV.eqi rfl rfl) ?_
  refine LW.nil (hK3 _ _ ?_)
  by_cases hp1 : a1 = a2
  ·
    replace F := ite_y hp1 F
    have hq1 := dec_t hp1
    refine CW.condT rfl hq1 ?_
    refine CW.seq fun K4 hK4 => ?_
    refine CW.region ?_
    refine LW.pure rfl rfl (RV.build (vs := [.int .i64 1]) (cs := [.int .i64 0, .int .i64 1]) rfl (fun _ => by kernel_rfl)) ?_
    refine LW.go rfl rfl (OW.store Tk28 rfl rfl (H.blk 0 rfl) (off := 0) (vs := [.int .i64 0, .int .i64 1]) rfl rfl rfl rfl rfl fun w4 S1 => ?_)
    replace H : Hp w w4 [.blk b3 28 [.int .i64 0, .int .i64 1], .blk b2 3 [.int .i64 a1], .blk b1 24 [.int .i64 a0.points, .slice A_a0_readings a0.readings.length c_a0_readings]] := H.stored 0 rfl S1
    replace R0 := H.ext
    refine LW.nil (hK4 _ _ ?_)
    refine CW.ret ?_
    obtain rfl := Option.some.inj F
    refine ⟨_, (ResOK.cell1 ⟨_, rfl, run_loadVar_agg Tk28 (H.blk 0 rfl).cells (us := [.int .i64 0, .int .i64 1]) rfl rfl⟩), ?_⟩
    refine ⟨(by first | rfl | simp), R0⟩
  ·
    replace F := ite_n hp1 F
    have hq1 := dec_f hp1
    refine CW.condF rfl hq1 ?_
    refine CW.skip (hK2 _ _ ?_)
    refine CW.seqJ (fun ρ wl1 => (level_resist_k1 = some res ∧ ρ = [(6, .pointer (some (⟨b3, 0, none⟩)))] ∧ Hp w wl1 [.blk b3 28 [.int .i64 0, .int .i64 0]])) ?_ ?_
    ·
      rintro _ wl1 ⟨F, rfl, H⟩
      have R0 := H.ext
      unfold level_resist_k1 at F
      refine CW.seq fun K5 hK5 => ?_
      refine CW.region ?_
      refine LW.pure rfl rfl (RV.build (vs := [.int .i64 1]) (cs := [.int .i64 0, .int .i64 1]) rfl (fun _ => by kernel_rfl)) ?_
      refine LW.go rfl rfl (OW.store Tk28 rfl rfl (H.blk 0 rfl) (off := 0) (vs := [.int .i64 0, .int .i64 1]) rfl rfl rfl rfl rfl fun w5 S2 => ?_)
      replace H : Hp w w5 [.blk b3 28 [.int .i64 0, .int .i64 1]] := H.stored 0 rfl S2
      replace R0 := H.ext
      refine LW.nil (hK5 _ _ ?_)
      refine CW.ret ?_
      obtain rfl := Option.some.inj F
      refine ⟨_, (ResOK.cell1 ⟨_, rfl, run_loadVar_agg Tk28 (H.blk 0 rfl).cells (us := [.int .i64 0, .int .i64 1]) rfl rfl⟩), ?_⟩
      refine ⟨(by first | rfl | simp), R0⟩
    ·
      intro K6 hK6 jK96
      refine CW.seq fun K7 hK7 => ?_
      obtain ⟨r1, hr1, F⟩ := bnd_some F
      refine CW.region ?_
      refine LW.pure rfl rfl (RV.loadA [.int .i64 a0.points, .slice A_a0_readings a0.readings.length c_a0_readings] Tk24 rfl (H.blk 2 rfl).cells rfl rfl) ?_
      refine LW.go rfl rfl (OW.call Tc66 rfl (level_parts_ok (a0 := a0) (h_a0_readings.ext R0) hr1) ?_)
      rintro _ w6 ⟨A50_0, c50_0, hs50_0, rfl, E1⟩
      refine ⟨_, rfl, ?_⟩
      replace H : Hp w w6 [.tab A50_0 c50_0 39 hs50_0 3 1 (encM encN r1), .blk b3 28 [.int .i64 0, .int .i64 0], .blk b2 3 [.int .i64 a1], .blk b1 24 [.int .i64 a0.points, .slice A_a0_readings a0.readings.length c_a0_readings]] := H.append E1
      replace R0 := H.ext
      refine LW.pure rfl rfl (RV.len Ts36 rfl) ?_
      refine LW.pure rfl rfl (RV.move rfl) ?_
      refine LW.nil (hK7 _ _ ?_)
      refine CW.block ?_
      replace H := H.pick (L' := [.tab A50_0 c50_0 39 hs50_0 3 1 (encM encN r1), .blk b1 24 [.int .i64 a0.points, .slice A_a0_readings a0.readings.length c_a0_readings], .blk b2 3 [.int .i64 a1], .blk b3 28 [.int .i64 0, .int .i64 0]]) [0, 3, 2, 1] (by decide) rfl
      replace R0 := H.ext
      refine CW.loop (fun meas ρ wl2 => ∃ (t18_1 : Int), level_resist_L1 a0 a1 a2 r1 meas t18_1 = some res ∧ ρ = [(2, .int .i64 a2), (3, .pointer (some (⟨b1, 0, none⟩))), (4, .pointer (some (⟨b2, 0, none⟩))), (6, .pointer (some (⟨b3, 0, none⟩))), (16, .slice A50_0 r1.length c50_0), (17, .int .i64 ((r1.length : Int))), (18, .int .i64 t18_1)] ∧ Hp w wl2 [.tab A50_0 c50_0 39 hs50_0 3 1 (encM encN r1), .blk b1 24 [.int .i64 a0.points, .slice A_a0_readings a0.readings.length c_a0_readings], .blk b2 3 [.int .i64 a1], .blk b3 28 [.int .i64 0, .int .i64 0]]) FU ⟨_, ?_, ((0 : Int)), F, rfl, H⟩ ?_
      · exact ⟨rfl, rfl, rfl, rfl, (look_slice rfl (by first | rfl | (simp; done) | omega | (simp; omega))), rfl, rfl, trivial⟩
      rintro mk1 _ wl2 ⟨t18_1, F, rfl, H⟩
      have R0 := H.ext
      replace F := level_resist_L1_s F
      obtain ⟨mk1, rfl, F⟩ := F
      generalize hrec1 : level_resist_L1 a0 a1 a2 r1 mk1 = rec1 at F
      unfold level_resist_B1 at F
      refine CW.seq fun K8 hK8 => ?_
      refine CW.region ?_
      refine LW.pure rfl rfl (RV.lss rfl rfl) ?_
      refine LW.nil (hK8 _ _ ?_)
      refine CW.seq fun K9 hK9 => ?_
      by_cases hp2 : t18_1 < ((r1.length : Int))
      ·
        replace F := ite_y hp2 F
        have hq2 := dec_t hp2
        refine CW.condT rfl hq2 ?_
        refine CW.skip (hK9 _ _ ?_)
        refine CW.seq fun K10 hK10 => ?_
        refine CW.block ?_
        refine CW.seq fun K11 hK11 => ?_
        obtain ⟨x1, hbx1, hx1, F⟩ := ix_some F
        refine CW.region ?_
        obtain ⟨B1, e1, hh1⟩ := (H.tab 0 rfl).hd hx1
        refine LW.pure rfl rfl (RV.indexAddr Ts36 rfl rfl hbx1 ((H.tab 0 rfl).addr_ hx1)) ?_
        refine LW.pure rfl rfl (RV.load1 Tk39 rfl ((H.tab 0 rfl).cell hx1 hh1) rfl) ?_
        refine LW.pure rfl rfl (RV.assign rfl) ?_
        refine LW.nil (hK11 _ _ ?_)
        refine CW.seq fun K12 hK12 => ?_
        obtain ⟨r2, hr2, F⟩ := bnd_some F
        refine CW.region ?_
        refine LW.pure rfl rfl (RV.move rfl) ?_
        refine LW.pure rfl rfl (RV.move rfl) ?_
        refine LW.go rfl rfl (OW.call Tc94 rfl (slices_Index_int_ok (a0 := x1) (a1 := a2) ((H.tab 0 rfl).rowO hx1 hh1).sl hr2) ?_)
        rintro _ w7 ⟨rfl, E2⟩
        refine ⟨_, rfl, ?_⟩
        replace H := H.grow E2
        replace R0 := H.ext
        refine LW.pure rfl rfl (RV.assign rfl) ?_
        refine LW.nil (hK12 _ _ ?_)
        refine CW.seq fun K13 hK13 => ?_
        refine CW.region ?_
        refine LW.pure rfl rfl (RV.move rfl) ?_
        refine LW.pure rfl rfl (RV.geq rfl rfl) ?_
        refine LW.nil (hK13 _ _ ?_)
        by_cases hp3 : (0 : Int) ≤ r2
        ·
          replace F := ite_y hp3 F
          have hq3 := dec_t hp3
          refine CW.condT rfl hq3 ?_
          refine CW.seq fun K14 hK14 => ?_
          obtain ⟨hg1, F⟩ := gd_some F
          obtain ⟨r3, hr3, F⟩ := bnd_some F
          refine CW.region ?_
          refine LW.pure rfl rfl (RV.move rfl) ?_
          refine LW.pure rfl rfl (RV.move rfl) ?_
          refine LW.pure rfl rfl (RV.move rfl) ?_
          refine LW.pure rfl rfl (RV.add rfl rfl hg1) ?_
          replace H : Hp w w7 [.own B1 e1 3 1 (List.map encN x1), .blk b1 24 [.int .i64 a0.points, .slice A_a0_readings a0.readings.length c_a0_readings], .blk b2 3 [.int .i64 a1], .blk b3 28 [.int .i64 0, .int .i64 0]] := H.rowOut (enc := encN) (l := x1) 0 rfl hx1 hh1
          replace R0 := H.ext
          replace H := H.pick (L' := [.own B1 e1 3 1 (List.map encN x1), .blk b1 24 [.int .i64 a0.points, .slice A_a0_readings a0.readings.length c_a0_readings], .blk b2 3 [.int .i64 a1], .blk b3 28 [.int .i64 0, .int .i64 0]]) [0, 1, 2, 3] (by decide) rfl
          replace R0 := H.ext
          refine LW.go rfl rfl (OW.call Tc95 rfl (slices_Delete_int_ok (a0 := x1) (a1 := r2) (a2 := r2 + 1) (R := [.blk b1 24 [.int .i64 a0.points, .slice A_a0_readings a0.readings.length c_a0_readings], .blk b2 3 [.int .i64 a1], .blk b3 28 [.int .i64 0, .int .i64 0]]) H hr3) ?_)
          rintro _ w8 ⟨rfl, Hq1⟩
          refine ⟨_, rfl, ?_⟩
          replace H : Hp w w8 [.own B1 e1 3 1 (List.map encN r3), .blk b1 24 [.int .i64 a0.points, .slice A_a0_readings a0.readings.length c_a0_readings], .blk b2 3 [.int .i64 a1], .blk b3 28 [.int .i64 0, .int .i64 0]] := Hq1
          replace R0 := H.ext
          refine LW.pure rfl rfl (RV.assign rfl) ?_
          refine LW.nil (hK14 _ _ ?_)
          refine CW.seq fun K15 hK15 => ?_
          obtain ⟨r4, hr4, F⟩ := bnd_some F
          obtain ⟨r5, hr5, F⟩ := bnd_some F
          refine CW.region ?_
          refine LW.pure rfl rfl (RV.loadA [.int .i64 a0.points, .slice A_a0_readings a0.readings.length c_a0_readings] Tk24 rfl (H.blk 1 rfl).cells rfl rfl) ?_
          refine LW.pure rfl rfl (RV.move rfl) ?_
          refine LW.pure rfl rfl (RV.makeFunc (fs := []) (cs := [.pointer (some (⟨b2, 0, none⟩))]) rfl rfl) ?_
          refine LW.go rfl rfl (OW.call Tc97 rfl (level_balance_ok (a0 := a0) (a1 := r3) (a2 := (fun x2 => level_resist_1 a1 x2)) (h_a0_readings.ext R0) (H.own 0 rfl).sl (fun x2 r hF w9 hE => CallsV.cap Tc98 (by simp) (level_resist_1_ok (cap0 := a1) (a0 := x2) ((H.blk 2 rfl).cells.ext hE) hF)) hr4) ?_)
          rintro _ w10 ⟨A67_0, c67_0, hs67_0, rfl, E3⟩
          refine ⟨_, rfl, ?_⟩
          replace H : Hp w w10 [.tab A67_0 c67_0 53 hs67_0 28 2 (encM encRat r4), .own B1 e1 3 1 (List.map encN r3), .blk b1 24 [.int .i64 a0.points, .slice A_a0_readings a0.readings.length c_a0_readings], .blk b2 3 [.int .i64 a1], .blk b3 28 [.int .i64 0, .int .i64 0]] := H.append E3
          replace R0 := H.ext
          replace H := H.pick (L' := [.tab A67_0 c67_0 53 hs67_0 28 2 (encM encRat r4), .own B1 e1 3 1 (List.map encN r3), .blk b1 24 [.int .i64 a0.points, .slice A_a0_readings a0.readings.length c_a0_readings], .blk b2 3 [.int .i64 a1], .blk b3 28 [.int .i64 0, .int .i64 0]]) [0, 1, 2, 3, 4] (by decide) rfl
          replace R0 := H.ext
          refine LW.go rfl rfl (OW.call Tc96 rfl (level_solve_ok (a0 := r4) (R := [.own B1 e1 3 1 (List.map encN r3), .blk b1 24 [.int .i64 a0.points, .slice A_a0_readings a0.readings.length c_a0_readings], .blk b2 3 [.int .i64 a1], .blk b3 28 [.int .i64 0, .int .i64 0]]) H hr5) ?_)
          rintro _ w11 ⟨hsm68_a0, A68_0, c68_0, rfl, hlm68_a0, hcv68_a0, Hq2⟩
          refine ⟨_, rfl, ?_⟩
          replace H : Hp w w11 [.tab A67_0 c67_0 53 hsm68_a0 28 2 (encM encRat r5.2), .own A68_0 c68_0 28 2 (List.map encRat r5.1), .own B1 e1 3 1 (List.map encN r3), .blk b1 24 [.int .i64 a0.points, .slice A_a0_readings a0.readings.length c_a0_readings], .blk b2 3 [.int .i64 a1], .blk b3 28 [.int .i64 0, .int .i64 0]] := Hq2
          replace R0 := H.ext
          refine LW.pure rfl rfl (RV.assign rfl) ?_
          refine LW.nil (hK15 _ _ ?_)
          refine CW.seq fun K16 hK16 => ?_
          obtain ⟨r6, hr6, F⟩ := bnd_some F
          obtain ⟨x3, hbx3, hx3, F⟩ := ix_some F
          refine CW.region ?_
          refine LW.pure rfl rfl (RV.move rfl) ?_
          refine LW.pure rfl rfl (RV.move rfl) ?_
          refine LW.pure rfl rfl (RV.load1 Tk3 rfl (H.blk 4 rfl).cells rfl) ?_
          refine LW.go rfl rfl (OW.call Tc94 rfl (slices_Index_int_ok (a0 := r3) (a1 := a1) (H.own 2 rfl).sl hr6) ?_)
          rintro _ w12 ⟨rfl, E4⟩
          refine ⟨_, rfl, ?_⟩
          replace H := H.grow E4
          replace R0 := H.ext
          refine LW.pure rfl rfl (RV.indexAddr Ts53 rfl rfl hbx3 ((H.own 1 rfl).sl.addr_ hx3)) ?_
          refine LW.pure rfl rfl (RV.loadA [.int .i64 x3.num, .int .i64 x3.den] Tk28 rfl ((H.own 1 rfl).sl.at_ hx3) rfl rfl) ?_
          refine LW.go rfl rfl (OW.store Tk28 rfl rfl (H.blk 5 rfl) (off := 0) (vs := [.int .i64 x3.num, .int .i64 x3.den]) rfl rfl rfl rfl rfl fun w13 S3 => ?_)
          replace H : Hp w w13 [.tab A67_0 c67_0 53 hsm68_a0 28 2 (encM encRat r5.2), .own A68_0 c68_0 28 2 (List.map encRat r5.1), .own B1 e1 3 1 (List.map encN r3), .blk b1 24 [.int .i64 a0.points, .slice A_a0_readings a0.readings.length c_a0_readings], .blk b2 3 [.int .i64 a1], .blk b3 28 [.int .i64 x3.num, .int .i64 x3.den]] := H.stored 5 rfl S3
          replace R0 := H.ext
          refine LW.nil (hK16 _ _ ?_)
          refine CW.ret ?_
          obtain rfl := Option.some.inj F
          refine ⟨_, (ResOK.cell1 ⟨_, rfl, run_loadVar_agg Tk28 (H.blk 5 rfl).cells (us := [.int .i64 x3.num, .int .i64 x3.den]) rfl rfl⟩), ?_⟩
          refine ⟨(by first | rfl | simp), R0⟩
        ·
          replace F := ite_n hp3 F
          have hq3 := dec_f hp3
          refine CW.condF rfl hq3 ?_
          refine CW.skip (hK10 _ _ ?_)
          obtain ⟨hg2, F⟩ := gd_some F
          refine CW.region ?_
          refine LW.pure rfl rfl (RV.add rfl rfl hg2) ?_
          refine LW.pure rfl rfl (RV.move rfl) ?_
          refine LW.nil ?_
          subst hrec1
          refine ⟨mk1, Nat.lt_succ_self _, _, ?_, (t18_1 + 1), F, rfl, H⟩
          exact ⟨rfl, rfl, rfl, rfl, (look_slice rfl (by first | rfl | (simp; done) | omega | (simp; omega))), rfl, rfl, trivial⟩
      ·
        replace F := ite_n hp2 F
        have hq2 := dec_f hp2
        refine CW.condF rfl hq2 ?_
        replace H := H.pick (L' := [.blk b3 28 [.int .i64 0, .int .i64 0]]) [3] (by decide) rfl
        replace R0 := H.ext
        refine CW.exit (jK96 _ _ ⟨_, ?_, ⟨F, rfl, H⟩⟩)
        exact ⟨rfl, trivial⟩
set_option maxRecDepth 20000 in
set_option maxHeartbeats 1000000 in
theorem level_Error_ok {a0 : Survey} {a1 : Int} {a2 : Int} {A_a0_readings : Option Addr} {c_a0_readings : Nat} {w : World} {res : Rat × Int} (h_a0_readings : Sl w A_a0_readings c_a0_readings 4 (a0.readings.map encReading)) (F : level_Error a0 a1 a2 = some res) : Calls Try.prog 19 #[.agg #[.int .i64 a0.points, .slice A_a0_readings a0.readings.length c_a0_readings], .int .i64 a1, .int .i64 a2] w (Rt w (.tuple #[.agg #[.int .i64 res.1.num, .int .i64 res.1.den], .int .i64 res.2])) := by
  refine calls_of_cw (args := [.agg #[.int .i64 a0.points, .slice A_a0_readings a0.readings.length c_a0_readings], .int .i64 a1, .int .i64 a2]) Try.func19 rfl rfl rfl rfl ?_
  have H := Hp.start w
  have R0 := H.ext
  unfold level_Error at F
  refine CW.seq fun K1 hK1 => ?_
  refine CW.region ?_
  refine LW.go rfl rfl (OW.box rfl fun b1 w1 N1 => ?_)
  replace H := H.new N1 N1.blk
  replace R0 := H.ext
  refine LW.go rfl rfl (OW.alloc Tz28 fun b2 w2 N2 => ?_)
  replace H := H.new N2 N2.blk
  replace R0 := H.ext
  refine LW.pure rfl rfl (RV.assign rfl) ?_
  refine LW.nil (hK1 _ _ ?_)
  refine CW.seq fun K2 hK2 => ?_
  refine CW.seq fun K3 hK3 => ?_
  obtain ⟨r3, hr3, F⟩ := bnd_some F
  refine CW.region ?_
  refine LW.pure rfl rfl (RV.loadA [.int .i64 a0.points, .slice A_a0_readings a0.readings.length c_a0_readings] Tk24 rfl (H.blk 1 rfl).cells rfl rfl) ?_
  refine LW.go rfl rfl (OW.call Tc25 rfl (level_Validate_ok (a0 := a0) (h_a0_readings.ext R0) hr3) ?_)
  rintro _ w3 ⟨rfl, E1⟩
  refine ⟨_, rfl, ?_⟩
  replace H := H.grow E1
  replace R0 := H.ext
  refine LW.pure rfl rfl (RV.assign rfl) ?_
  refine LW.nil (hK3 _ _ ?_)
  refine CW.seq fun K4 hK4 => ?_
  refine CW.region ?_
  refine LW.pure rfl rfl (RV.move rfl) ?_
  refine LW.pure rfl rfl (RV.nei rfl rfl) ?_
  refine LW.nil (hK4 _ _ ?_)
  by_cases hp1 : r3 = 0
  ·
    replace F := ite_y hp1 F
    have hq1 := dec_t hp1
    refine CW.condF rfl (not_f hq1) ?_
    refine CW.skip (hK2 _ _ ?_)
    refine CW.seq fun K5 hK5 => ?_
    refine CW.seqJ (fun ρ wl1 => (∃ (t30_1 : Bool), level_Error_k1 a0 a1 a2 t30_1 = some res ∧ ρ = [(1, .int .i64 a1), (2, .int .i64 a2), (3, .pointer (some (⟨b1, 0, none⟩))), (6, .pointer (some (⟨b2, 0, none⟩))), (7, .int .i64 0), (30, .bool t30_1)] ∧ Hp w wl1 [.blk b1 24 [.int .i64 a0.points, .slice A_a0_readings a0.readings.length c_a0_readings], .blk b2 28 [.int .i64 0, .int .i64 0]])) ?_ ?_
    ·
      rintro _ wl1 ⟨t30_1, F, rfl, H⟩
      have R0 := H.ext
      unfold level_Error_k1 at F
      by_cases hp2 : t30_1 = true
      ·
        replace F := ite_y hp2 F
        have hq2 : t30_1 = true := hp2
        refine CW.condT rfl hq2 ?_
        refine CW.seq fun K6 hK6 => ?_
        refine CW.region ?_
        refine LW.pure rfl rfl (RV.build (vs := []) (cs := [.int .i64 0, .int .i64 0]) rfl (fun _ => by kernel_rfl)) ?_
        refine LW.go rfl rfl (OW.store Tk28 rfl rfl (H.blk 1 rfl) (off := 0) (vs := [.int .i64 0, .int .i64 0]) rfl rfl rfl rfl rfl fun w4 S1 => ?_)
        replace H : Hp w w4 [.blk b1 24 [.int .i64 a0.points, .slice A_a0_readings a0.readings.length c_a0_readings], .blk b2 28 [.int .i64 0, .int .i64 0]] := H.stored 1 rfl S1
        replace R0 := H.ext
        refine LW.pure rfl rfl (RV.assign rfl) ?_
        refine LW.nil (hK6 _ _ ?_)
        refine CW.ret ?_
        obtain rfl := Option.some.inj F
        refine ⟨_, (ResOK.two ⟨_, rfl, run_loadVar_agg Tk28 (H.blk 1 rfl).cells (us := [.int .i64 0, .int .i64 0]) rfl rfl⟩ rfl), ?_⟩
        refine ⟨(by first | rfl | simp), R0⟩
      ·
        replace F := ite_n hp2 F
        have hq2 : t30_1 = false := raw_f hp2
        refine CW.condF rfl hq2 ?_
        refine CW.skip (hK5 _ _ ?_)
        refine CW.seq fun K7 hK7 => ?_
        refine CW.seq fun K8 hK8 => ?_
        obtain ⟨r1, hr1, F⟩ := bnd_some F
        refine CW.region ?_
        refine LW.pure rfl rfl (RV.loadA [.int .i64 a0.points, .slice A_a0_readings a0.readings.length c_a0_readings] Tk24 rfl (H.blk 0 rfl).cells rfl rfl) ?_
        refine LW.go rfl rfl (OW.call Tc62 rfl (level_forest_ok (a0 := a0) (h_a0_readings.ext R0) hr1) ?_)
        rintro _ w5 ⟨A13_0, c13_0, A13_1, c13_1, rfl, E2⟩
        refine ⟨_, rfl, ?_⟩
        replace H : Hp w w5 [.own A13_0 c13_0 3 1 (List.map encN r1.1), .own A13_1 c13_1 3 1 (List.map encN r1.2), .blk b1 24 [.int .i64 a0.points, .slice A_a0_readings a0.readings.length c_a0_readings], .blk b2 28 [.int .i64 0, .int .i64 0]] := H.append E2
        replace R0 := H.ext
        refine LW.pure rfl rfl (RV.move rfl) ?_
        refine LW.pure rfl rfl (RV.extract rfl rfl) ?_
        refine LW.pure rfl rfl (RV.extract rfl rfl) ?_
        refine LW.pure rfl rfl (RV.assign rfl) ?_
        refine LW.pure rfl rfl (RV.assign rfl) ?_
        refine LW.nil (hK8 _ _ ?_)
        refine CW.seq fun K9 hK9 => ?_
        obtain ⟨x1, hbx1, hx1, F⟩ := ix_some F
        obtain ⟨x2, hbx2, hx2, F⟩ := ix_some F
        refine CW.draw [] (fun _ => True) (.cons 0 1 (.cons 1 1 (.cons 2 1 (.cons 3 1 (.cons 4 1 (.cons 5 1 (.cons 6 1 (.cons 7 1 (.cons 8 1 .nil))))))))) mixed (by kernel_rfl) fun w6 E3 => ?_
        replace H := H.grow E3
        replace R0 := H.ext
        refine DW.fix rfl rfl rfl (fun _ EQ => RV.move rfl) ?_
        refine DW.fix rfl rfl rfl (fun _ EQ => RV.move rfl) ?_
        refine DW.fix rfl rfl rfl (fun _ EQ => RV.indexAddr Ts39 rfl rfl hbx1 ((H.own 0 rfl).sl.addr_ hx1)) ?_
        refine DW.fix rfl rfl rfl (fun _ EQ => RV.load1 Tk3 rfl (((H.grow EQ).own 0 rfl).sl.at_ hx1) rfl) ?_
        refine DW.fix rfl rfl rfl (fun _ EQ => RV.move rfl) ?_
        refine DW.fix rfl rfl rfl (fun _ EQ => RV.move rfl) ?_
        refine DW.fix rfl rfl rfl (fun _ EQ => RV.indexAddr Ts39 rfl rfl hbx2 ((H.own 0 rfl).sl.addr_ hx2)) ?_
        refine DW.fix rfl rfl rfl (fun _ EQ => RV.load1 Tk3 rfl (((H.grow EQ).own 0 rfl).sl.at_ hx2) rfl) ?_
        refine DW.fix rfl rfl rfl (fun _ EQ => RV.nei rfl rfl) ?_
        refine DW.nil (hK9 _ _ ?_)
        by_cases hp3 : x1 = x2
        ·
          replace F := ite_y hp3 F
          have hq3 := dec_t hp3
          refine CW.condF rfl (not_f hq3) ?_
          refine CW.skip (hK7 _ _ ?_)
          refine CW.seq fun K10 hK10 => ?_
          obtain ⟨r2, hr2, F⟩ := bnd_some F
          refine CW.region ?_
          refine LW.pure rfl rfl (RV.loadA [.int .i64 a0.points, .slice A_a0_readings a0.readings.length c_a0_readings] Tk24 rfl (H.blk 2 rfl).cells rfl rfl) ?_
          refine LW.pure rfl rfl (RV.move rfl) ?_
          refine LW.pure rfl rfl (RV.move rfl) ?_
          refine LW.go rfl rfl (OW.call Tc63 rfl (level_resist_ok (a0 := a0) (a1 := a1) (a2 := a2) (h_a0_readings.ext R0) hr2) ?_)
          rintro _ w7 ⟨rfl, E4⟩
          refine ⟨_, rfl, ?_⟩
          replace H := H.grow E4
          replace R0 := H.ext
          refine LW.go rfl rfl (OW.store Tk28 rfl rfl (H.blk 3 rfl) (off := 0) (vs := [.int .i64 r2.num, .int .i64 r2.den]) rfl rfl rfl rfl rfl fun w8 S2 => ?_)
          replace H : Hp w w8 [.own A13_0 c13_0 3 1 (List.map encN r1.1), .own A13_1 c13_1 3 1 (List.map encN r1.2), .blk b1 24 [.int .i64 a0.points, .slice A_a0_readings a0.readings.length c_a0_readings], .blk b2 28 [.int .i64 r2.num, .int .i64 r2.den]] := H.stored 3 rfl S2
          replace R0 := H.ext
          refine LW.pure rfl rfl (RV.assign rfl) ?_
          refine LW.nil (hK10 _ _ ?_)
          refine CW.ret ?_
          obtain rfl := Option.some.inj F
          refine ⟨_, (ResOK.two ⟨_, rfl, run_loadVar_agg Tk28 (H.blk 3 rfl).cells (us := [.int .i64 r2.num, .int .i64 r2.den]) rfl rfl⟩ rfl), ?_⟩
          refine ⟨(by first | rfl | simp), R0⟩
        ·
          replace F := ite_n hp3 F
          have hq3 := dec_f hp3
          refine CW.condT rfl (not_t hq3) ?_
          refine CW.seq fun K11 hK11 => ?_
          refine CW.region ?_
          refine LW.pure rfl rfl (RV.build (vs := []) (cs := [.int .i64 0, .int .i64 0]) rfl (fun _ => by kernel_rfl)) ?_
          refine LW.go rfl rfl (OW.store Tk28 rfl rfl (H.blk 3 rfl) (off := 0) (vs := [.int .i64 0, .int .i64 0]) rfl rfl rfl rfl rfl fun w9 S3 => ?_)
          replace H : Hp w w9 [.own A13_0 c13_0 3 1 (List.map encN r1.1), .own A13_1 c13_1 3 1 (List.map encN r1.2), .blk b1 24 [.int .i64 a0.points, .slice A_a0_readings a0.readings.length c_a0_readings], .blk b2 28 [.int .i64 0, .int .i64 0]] := H.stored 3 rfl S3
          replace R0 := H.ext
          refine LW.pure rfl rfl (RV.assign rfl) ?_
          refine LW.nil (hK11 _ _ ?_)
          refine CW.ret ?_
          obtain rfl := Option.some.inj F
          refine ⟨_, (ResOK.two ⟨_, rfl, run_loadVar_agg Tk28 (H.blk 3 rfl).cells (us := [.int .i64 0, .int .i64 0]) rfl rfl⟩ rfl), ?_⟩
          refine ⟨(by first | rfl | simp), R0⟩
    ·
      intro K12 hK12 jK25
      obtain ⟨hg1, F⟩ := gd_some F
      obtain ⟨r4, hr4, F⟩ := bnd_some F
      by_cases hp4 : r4 = true
      ·
        replace F := ite_y hp4 F
        have hq4 : r4 = true := hp4
        obtain ⟨hg2, F⟩ := gd_some F
        obtain ⟨r5, hr5, F⟩ := bnd_some F
        refine CW.region ?_
        refine LW.pure rfl rfl (RV.move rfl) ?_
        refine LW.pure rfl rfl (RV.fieldAddr Tf24_0 rfl) ?_
        refine LW.pure rfl rfl (RV.load1 Tk3 rfl ((H.blk 1 rfl).cells.off 0) rfl) ?_
        refine LW.pure rfl rfl (RV.sub rfl rfl hg1) ?_
        refine LW.go rfl rfl (OW.call Tc61 rfl (level_within_ok (a0 := a1) (a1 := (0 : Int)) (a2 := a0.points - 1) hr4) ?_)
        rintro _ w10 ⟨rfl, E5⟩
        refine ⟨_, rfl, ?_⟩
        replace H := H.grow E5
        replace R0 := H.ext
        refine LW.pure rfl rfl (RV.not rfl) ?_
        refine LW.pure rfl rfl (RV.move rfl) ?_
        refine LW.pureYB rfl rfl rfl rfl (not_f hq4) (RV.move rfl) ?_
        refine LW.pureYB rfl rfl rfl rfl (not_f hq4) (RV.fieldAddr Tf24_0 rfl) ?_
        refine LW.pureYB rfl rfl rfl rfl (not_f hq4) (RV.load1 Tk3 rfl ((H.blk 1 rfl).cells.off 0) rfl) ?_
        refine LW.pureYB rfl rfl rfl rfl (not_f hq4) (RV.sub rfl rfl hg2) ?_
        refine LW.yesB rfl rfl rfl rfl (not_f hq4) (OW.call Tc61 rfl (level_within_ok (a0 := a2) (a1 := (0 : Int)) (a2 := a0.points - 1) hr5) ?_)
        rintro _ w11 ⟨rfl, E6⟩
        refine ⟨_, rfl, ?_⟩
        replace H := H.grow E6
        replace R0 := H.ext
        refine LW.pureYB rfl rfl rfl rfl (not_f hq4) (RV.not rfl) ?_
        refine LW.pure rfl rfl (RV.pickFB rfl (not_f hq4) rfl) ?_
        replace H := H.pick (L' := [.blk b1 24 [.int .i64 a0.points, .slice A_a0_readings a0.readings.length c_a0_readings], .blk b2 28 [.int .i64 0, .int .i64 0]]) [1, 0] (by decide) rfl
        replace R0 := H.ext
        refine LW.nil (jK25 _ _ ⟨_, ?_, ⟨(!r5), F, rfl, H⟩⟩)
        exact ⟨rfl, rfl, rfl, rfl, rfl, rfl, trivial⟩
      ·
        replace F := ite_n hp4 F
        have hq4 : r4 = false := raw_f hp4
        refine CW.region ?_
        refine LW.pure rfl rfl (RV.move rfl) ?_
        refine LW.pure rfl rfl (RV.fieldAddr Tf24_0 rfl) ?_
        refine LW.pure rfl rfl (RV.load1 Tk3 rfl ((H.blk 1 rfl).cells.off 0) rfl) ?_
        refine LW.pure rfl rfl (RV.sub rfl rfl hg1) ?_
        refine LW.go rfl rfl (OW.call Tc61 rfl (level_within_ok (a0 := a1) (a1 := (0 : Int)) (a2 := a0.points - 1) hr4) ?_)
        rintro _ w12 ⟨rfl, E7⟩
        refine ⟨_, rfl, ?_⟩
        replace H := H.grow E7
        replace R0 := H.ext
        refine LW.pure rfl rfl (RV.not rfl) ?_
        refine LW.pure rfl rfl (RV.move rfl) ?_
        refine LW.noB rfl rfl rfl rfl (ne_beq (v := true) (not_t hq4) rfl) ?_
        refine LW.noB rfl rfl rfl rfl (ne_beq (v := true) (not_t hq4) rfl) ?_
        refine LW.noB rfl rfl rfl rfl (ne_beq (v := true) (not_t hq4) rfl) ?_
        refine LW.noB rfl rfl rfl rfl (ne_beq (v := true) (not_t hq4) rfl) ?_
        refine LW.noB rfl rfl rfl rfl (ne_beq (v := true) (not_t hq4) rfl) ?_
        refine LW.noB rfl rfl rfl rfl (ne_beq (v := true) (not_t hq4) rfl) ?_
        refine LW.pure rfl rfl (RV.pickTB rfl (not_t hq4) rfl) ?_
        replace H := H.pick (L' := [.blk b1 24 [.int .i64 a0.points, .slice A_a0_readings a0.readings.length c_a0_readings], .blk b2 28 [.int .i64 0, .int .i64 0]]) [1, 0] (by decide) rfl
        replace R0 := H.ext
        refine LW.nil (jK25 _ _ ⟨_, ?_, ⟨true, F, rfl, H⟩⟩)
        exact ⟨rfl, rfl, rfl, rfl, rfl, rfl, trivial⟩
  ·
    replace F := ite_n hp1 F
    have hq1 := dec_f hp1
    refine CW.condT rfl (not_t hq1) ?_
    refine CW.seq fun K13 hK13 => ?_
    refine CW.region ?_
    refine LW.pure rfl rfl (RV.build (vs := []) (cs := [.int .i64 0, .int .i64 0]) rfl (fun _ => by kernel_rfl)) ?_
    refine LW.pure rfl rfl (RV.move rfl) ?_
    refine LW.go rfl rfl (OW.store Tk28 rfl rfl (H.blk 0 rfl) (off := 0) (vs := [.int .i64 0, .int .i64 0]) rfl rfl rfl rfl rfl fun w13 S4 => ?_)
    replace H : Hp w w13 [.blk b2 28 [.int .i64 0, .int .i64 0], .blk b1 24 [.int .i64 a0.points, .slice A_a0_readings a0.readings.length c_a0_readings]] := H.stored 0 rfl S4
    replace R0 := H.ext
    refine LW.pure rfl rfl (RV.assign rfl) ?_
    refine LW.nil (hK13 _ _ ?_)
    refine CW.ret ?_
    obtain rfl := Option.some.inj F
    refine ⟨_, (ResOK.two ⟨_, rfl, run_loadVar_agg Tk28 (H.blk 0 rfl).cells (us := [.int .i64 0, .int .i64 0]) rfl rfl⟩ rfl), ?_⟩
    refine ⟨(by first | rfl | simp), R0⟩
set_option maxRecDepth 20000 in
set_option maxHeartbeats 1000000 in
theorem level_best_1_ok {cap0 : Survey} {a0 : Int} {A_cap0_readings : Option Addr} {c_cap0_readings : Nat} {b_cap0 : Nat} {w : World} {res : Int} (h_cap0_readings : Sl w A_cap0_readings c_cap0_readings 4 (cap0.readings.map encReading)) (hc_cap0 : Cells w ⟨b_cap0, 0, none⟩ [.int .i64 cap0.points, .slice A_cap0_readings cap0.readings.length c_cap0_readings]) (F : level_best_1 cap0 a0 = some res) : Calls Try.prog 103 #[.int .i64 a0, .pointer (some (⟨b_cap0, 0, none⟩))] w (Rt w (.int .i64 res)) := by
  refine calls_of_cw (args := [.int .i64 a0, .pointer (some (⟨b_cap0, 0, none⟩))]) Try.func103 rfl rfl rfl rfl ?_
  have H := Hp.start w
  have R0 := H.ext
  unfold level_best_1 at F
  refine CW.seq fun K1 hK1 => ?_
  refine CW.region ?_
  refine LW.pure rfl rfl (RV.assign rfl) ?_
  refine LW.nil (hK1 _ _ ?_)
  refine CW.seq fun K2 hK2 => ?_
  refine CW.region ?_
  refine LW.pure rfl rfl (RV.assign rfl) ?_
  refine LW.nil (hK2 _ _ ?_)
  refine CW.seqJ (fun ρ wl1 => (∃ (t4_1 : Int), level_best_1_k1 t4_1 = some res ∧ ρ = [(3, .int .i64 0), (4, .int .i64 t4_1)] ∧ Hp w wl1 [])) ?_ ?_
  ·
    rintro _ wl1 ⟨t4_1, F, rfl, H⟩
    have R0 := H.ext
    unfold level_best_1_k1 at F
    refine CW.seq fun K3 hK3 => ?_
    refine CW.region ?_
    refine LW.pure rfl rfl (RV.move rfl) ?_
    refine LW.pure rfl rfl (RV.assign rfl) ?_
    refine LW.nil (hK3 _ _ ?_)
    refine CW.ret ?_
    obtain rfl := Option.some.inj F
    refine ⟨_, (ResOK.one rfl), ?_⟩
    refine ⟨(by first | rfl | simp), R0⟩
  ·
    intro K4 hK4 jK110
    refine CW.seq fun K5 hK5 => ?_
    refine CW.region ?_
    refine LW.pure rfl rfl (RV.fieldAddr Tf24_1 rfl) ?_
    refine LW.pure rfl rfl (RV.load1 Tk22 rfl ((hc_cap0.ext R0).off 1) rfl) ?_
    refine LW.pure rfl rfl (RV.len Ts22 rfl) ?_
    refine LW.pure rfl rfl (RV.move rfl) ?_
    refine LW.nil (hK5 _ _ ?_)
    refine CW.block ?_
    refine CW.loop (fun meas ρ wl2 => ∃ (t4_3 : Int) (t10_1 : Int), level_best_1_L1 a0 cap0 meas t4_3 t10_1 = some res ∧ ρ = [(0, .int .i64 a0), (3, .int .i64 0), (4, .int .i64 t4_3), (8, .slice A_cap0_readings cap0.readings.length c_cap0_readings), (9, .int .i64 ((cap0.readings.length : Int))), (10, .int .i64 t10_1)] ∧ Hp w wl2 []) FU ⟨_, ?_, ((0 : Int)), ((0 : Int)), F, rfl, H⟩ ?_
    · exact ⟨rfl, rfl, rfl, rfl, rfl, rfl, trivial⟩
    rintro mk1 _ wl2 ⟨t4_3, t10_1, F, rfl, H⟩
    have R0 := H.ext
    replace F := level_best_1_L1_s F
    obtain ⟨mk1, rfl, F⟩ := F
    generalize hrec1 : level_best_1_L1 a0 cap0 mk1 = rec1 at F
    unfold level_best_1_B1 at F
    refine CW.seq fun K6 hK6 => ?_
    refine CW.region ?_
    refine LW.pure rfl rfl (RV.lss rfl rfl) ?_
    refine LW.nil (hK6 _ _ ?_)
    refine CW.seq fun K7 hK7 => ?_
    by_cases hp1 : t10_1 < ((cap0.readings.length : Int))
    ·
      replace F := ite_y hp1 F
      have hq1 := dec_t hp1
      refine CW.condT rfl hq1 ?_
      refine CW.skip (hK7 _ _ ?_)
      refine CW.seqJ (fun ρ wl3 => (∃ (t4_2 : Int), level_best_1_k2 t10_1 rec1 t4_2 = some res ∧ ρ = [(0, .int .i64 a0), (3, .int .i64 0), (4, .int .i64 t4_2), (8, .slice A_cap0_readings cap0.readings.length c_cap0_readings), (9, .int .i64 ((cap0.readings.length : Int))), (10, .int .i64 t10_1)] ∧ Hp w wl3 [])) ?_ ?_
      ·
        rintro _ wl3 ⟨t4_2, F, rfl, H⟩
        have R0 := H.ext
        unfold level_best_1_k2 at F
        obtain ⟨hg1, F⟩ := gd_some F
        refine CW.region ?_
        refine LW.pure rfl rfl (RV.add rfl rfl hg1) ?_
        refine LW.pure rfl rfl (RV.move rfl) ?_
        refine LW.nil ?_
        subst hrec1
        refine ⟨mk1, Nat.lt_succ_self _, _, ?_, t4_2, (t10_1 + 1), F, rfl, H⟩
        exact ⟨rfl, rfl, rfl, rfl, rfl, rfl, trivial⟩
      ·
        intro K8 hK8 jK140
        refine CW.block ?_
        refine CW.seq fun K9 hK9 => ?_
        obtain ⟨x1, hbx1, hx1, F⟩ := ix_some F
        refine CW.region ?_
        refine LW.pure rfl rfl (RV.indexAddr Ts22 rfl rfl hbx1 (h_cap0_readings.addr_ hx1)) ?_
        refine LW.pure rfl rfl (RV.loadA [.int .i64 x1.from_, .int .i64 x1.to_, .int .i64 x1.rise, .int .i64 x1.weight] Tk46 rfl ((h_cap0_readings.at_ hx1).ext R0) rfl rfl) ?_
        refine LW.go rfl rfl (OW.alloc Tz46 fun b1 w1 N1 => ?_)
        replace H := H.new N1 N1.blk
        replace R0 := H.ext
        refine LW.go rfl rfl (OW.store Tk46 rfl rfl (H.blk 0 rfl) (off := 0) (vs := [.int .i64 x1.from_, .int .i64 x1.to_, .int .i64 x1.rise, .int .i64 x1.weight]) rfl rfl rfl rfl rfl fun w2 S1 => ?_)
        replace H : Hp w w2 [.blk b1 46 [.int .i64 x1.from_, .int .i64 x1.to_, .int .i64 x1.rise, .int .i64 x1.weight]] := H.stored 0 rfl S1
        replace R0 := H.ext
        refine LW.nil (hK9 _ _ ?_)
        refine CW.seq fun K10 hK10 => ?_
        refine CW.region ?_
        refine LW.pure rfl rfl (RV.move rfl) ?_
        refine LW.nil (hK10 _ _ ?_)
        refine CW.block ?_
        refine CW.seq fun K11 hK11 => ?_
        refine CW.region ?_
        refine LW.pure rfl rfl (RV.fieldAddr Tf46_1 rfl) ?_
        refine LW.pure rfl rfl (RV.load1 Tk3 rfl ((H.blk 0 rfl).cells.off 1) rfl) ?_
        refine LW.pure rfl rfl (RV.eqi rfl rfl) ?_
        refine LW.pure rfl rfl (RV.assign rfl) ?_
        refine LW.nil (hK11 _ _ ?_)
        by_cases hp2 : a0 = x1.to_
        ·
          replace F := ite_y hp2 F
          have hq2 := dec_t hp2
          refine CW.condT rfl hq2 ?_
          obtain ⟨hg2, F⟩ := gd_some F
          obtain ⟨hg3, F⟩ := gd_some F
          refine CW.region ?_
          refine LW.pure rfl rfl (RV.move rfl) ?_
          refine LW.pure rfl rfl (RV.fieldAddr Tf46_3 rfl) ?_
          refine LW.pure rfl rfl (RV.load1 Tk3 rfl ((H.blk 0 rfl).cells.off 3) rfl) ?_
          refine LW.pure rfl rfl (RV.fieldAddr Tf46_2 rfl) ?_
          refine LW.pure rfl rfl (RV.load1 Tk3 rfl ((H.blk 0 rfl).cells.off 2) rfl) ?_
          refine LW.pure rfl rfl (RV.mul rfl rfl hg2) ?_
          refine LW.pure rfl rfl (RV.add rfl rfl hg3) ?_
          refine LW.pure rfl rfl (RV.assign rfl) ?_
          replace H := H.pick (L' := []) [] (by decide) rfl
          replace R0 := H.ext
          refine LW.nil (jK140 _ _ ⟨_, ?_, ⟨(t4_3 + (x1.weight * x1.rise)), F, rfl, H⟩⟩)
          exact ⟨rfl, rfl, rfl, rfl, rfl, rfl, trivial⟩
        ·
          replace F := ite_n hp2 F
          have hq2 := dec_f hp2
          refine CW.condF rfl hq2 ?_
          refine CW.seq fun K12 hK12 => ?_
          refine CW.region ?_
          refine LW.pure rfl rfl (RV.fieldAddr Tf46_0 rfl) ?_
          refine LW.pure rfl rfl (RV.load1 Tk3 rfl ((H.blk 0 rfl).cells.off 0) rfl) ?_
          refine LW.pure rfl rfl (RV.eqi rfl rfl) ?_
          refine LW.pure rfl rfl (RV.assign rfl) ?_
          refine LW.nil (hK12 _ _ ?_)
          by_cases hp3 : a0 = x1.from_
          ·
            replace F := ite_y hp3 F
            have hq3 := dec_t hp3
            refine CW.condT rfl hq3 ?_
            obtain ⟨hg4, F⟩ := gd_some F
            obtain ⟨hg5, F⟩ := gd_some F
            refine CW.region ?_
            refine LW.pure rfl rfl (RV.move rfl) ?_
            refine LW.pure rfl rfl (RV.fieldAddr Tf46_3 rfl) ?_
            refine LW.pure rfl rfl (RV.load1 Tk3 rfl ((H.blk 0 rfl).cells.off 3) rfl) ?_
            refine LW.pure rfl rfl (RV.fieldAddr Tf46_2 rfl) ?_
            refine LW.pure rfl rfl (RV.load1 Tk3 rfl ((H.blk 0 rfl).cells.off 2) rfl) ?_
            refine LW.pure rfl rfl (RV.mul rfl rfl hg4) ?_
            refine LW.pure rfl rfl (RV.sub rfl rfl hg5) ?_
            refine LW.pure rfl rfl (RV.assign rfl) ?_
            replace H := H.pick (L' := []) [] (by decide) rfl
            replace R0 := H.ext
            refine LW.nil (jK140 _ _ ⟨_, ?_, ⟨(t4_3 - (x1.weight * x1.rise)), F, rfl, H⟩⟩)
            exact ⟨rfl, rfl, rfl, rfl, rfl, rfl, trivial⟩
          ·
            replace F := ite_n hp3 F
            have hq3 := dec_f hp3
            refine CW.condF rfl hq3 ?_
            replace H := H.pick (L' := []) [] (by decide) rfl
            replace R0 := H.ext
            refine CW.skip (jK140 _ _ ⟨_, ?_, ⟨t4_3, F, rfl, H⟩⟩)
            exact ⟨rfl, rfl, rfl, rfl, rfl, rfl, trivial⟩
    ·
      replace F := ite_n hp1 F
      have hq1 := dec_f hp1
      refine CW.condF rfl hq1 ?_
      refine CW.exit (jK110 _ _ ⟨_, ?_, ⟨t4_3, F, rfl, H⟩⟩)
      exact ⟨rfl, rfl, trivial⟩
set_option maxRecDepth 20000 in
set_option maxHeartbeats 1000000 in
theorem level_best_ok {a0 : Survey} {A_a0_readings : Option Addr} {c_a0_readings : Nat} {w : World} {res : (List Rat)} (h_a0_readings : Sl w A_a0_readings c_a0_readings 4 (a0.readings.map encReading)) (F : level_best a0 = some res) : Calls Try.prog 74 #[.agg #[.int .i64 a0.points, .slice A_a0_readings a0.readings.length c_a0_readings]] w (fun e w' => ∃ (A0 : Option Addr) (c0 : Nat), e = .returned (.slice A0 res.length c0) ∧ Hp w w' [.own A0 c0 28 2 (List.map encRat res)]) := by
  refine calls_of_cw (args := [.agg #[.int .i64 a0.points, .slice A_a0_readings a0.readings.length c_a0_readings]]) Try.func74 rfl rfl rfl rfl ?_
  have H := Hp.start w
  have R0 := H.ext
  unfold level_best at F
  refine CW.seq fun K1 hK1 => ?_
  refine CW.region ?_
  refine LW.go rfl rfl (OW.box rfl fun b1 w1 N1 => ?_)
  replace H := H.new N1 N1.blk
  replace R0 := H.ext
  refine LW.pure rfl rfl (RV.assign rfl) ?_
  refine LW.nil (hK1 _ _ ?_)
  refine CW.seq fun K2 hK2 => ?_
  obtain ⟨r4, hr4, F⟩ := bnd_some F
  refine CW.region ?_
  refine LW.pure rfl rfl (RV.build (vs := [.int .i64 1]) (cs := [.int .i64 0, .int .i64 1]) rfl (fun _ => by kernel_rfl)) ?_
  refine LW.go rfl rfl (OW.buildSlice (e := 28) (vs := [.agg #[.int .i64 0, .int .i64 1]]) (cs := [.int .i64 0, .int .i64 1]) rfl (fun _ => by kernel_rfl) fun b2 w2 N2 => ?_)
  replace H := H.made' (k := 2) (t := 28) (enc := encRat) (l := ([(⟨0, 1⟩ : Rat)] : List Rat)) N2 N2.blk (fun _ => rfl) rfl (by first | decide | omega | (simp; done) | (simp; omega))
  replace R0 := H.ext
  refine LW.pure rfl rfl (RV.fieldAddr Tf24_0 rfl) ?_
  refine LW.pure rfl rfl (RV.load1 Tk3 rfl ((H.blk 1 rfl).cells.off 0) rfl) ?_
  refine LW.go rfl rfl (OW.call Tc102 (evs_cast rfl (by first | rfl | (simp; done) | (simp; omega))) (slices_Repeat_Rat_ok (a0 := ([(⟨0, 1⟩ : Rat)] : List Rat)) (a1 := a0.points) (H.own 0 rfl).sl hr4) ?_)
  rintro _ w3 ⟨A29_0, c29_0, rfl, E1⟩
  refine ⟨_, rfl, ?_⟩
  replace H : Hp w w3 [.own A29_0 c29_0 28 2 (List.map encRat r4), .own (some ⟨b2, 0, none⟩) ((([(⟨0, 1⟩ : Rat)] : List Rat)).length) 28 2 (List.map encRat (([(⟨0, 1⟩ : Rat)] : List Rat))), .blk b1 24 [.int .i64 a0.points, .slice A_a0_readings a0.readings.length c_a0_readings]] := H.append E1
  replace R0 := H.ext
  refine LW.pure rfl rfl (RV.assign rfl) ?_
  refine LW.nil (hK2 _ _ ?_)
  refine CW.seqJ (fun ρ wl1 => (∃ (l1 : List Rat), level_best_k1 l1 = some res ∧ ρ = [(2, .slice none 0 0), (3, .slice A29_0 l1.length c29_0)] ∧ Hp w wl1 [.own A29_0 c29_0 28 2 (List.map encRat l1)])) ?_ ?_
  ·
    rintro _ wl1 ⟨l1, F, rfl, H⟩
    have R0 := H.ext
    unfold level_best_k1 at F
    refine CW.seq fun K3 hK3 => ?_
    refine CW.region ?_
    refine LW.pure rfl rfl (RV.move rfl) ?_
    refine LW.pure rfl rfl (RV.assign rfl) ?_
    refine LW.nil (hK3 _ _ ?_)
    refine CW.ret ?_
    obtain rfl := Option.some.inj F
    refine ⟨_, (ResOK.one rfl), ?_⟩
    exact ⟨A29_0, c29_0, (by first | rfl | (simp; done) | (simp; omega)), H⟩
  ·
    intro K4 hK4 jK308
    refine CW.seq fun K5 hK5 => ?_
    obtain ⟨r2, hr2, F⟩ := bnd_some F
    refine CW.region ?_
    refine LW.pure rfl rfl (RV.loadA [.int .i64 a0.points, .slice A_a0_readings a0.readings.length c_a0_readings] Tk24 rfl (H.blk 2 rfl).cells rfl rfl) ?_
    refine LW.go rfl rfl (OW.call Tc66 rfl (level_parts_ok (a0 := a0) (h_a0_readings.ext R0) hr2) ?_)
    rintro _ w4 ⟨A44_0, c44_0, hs44_0, rfl, E2⟩
    refine ⟨_, rfl, ?_⟩
    replace H : Hp w w4 [.tab A44_0 c44_0 39 hs44_0 3 1 (encM encN r2), .own A29_0 c29_0 28 2 (List.map encRat r4), .own (some ⟨b2, 0, none⟩) ((([(⟨0, 1⟩ : Rat)] : List Rat)).length) 28 2 (List.map encRat (([(⟨0, 1⟩ : Rat)] : List Rat))), .blk b1 24 [.int .i64 a0.points, .slice A_a0_readings a0.readings.length c_a0_readings]] := H.append E2
    replace R0 := H.ext
    refine LW.pure rfl rfl (RV.len Ts36 rfl) ?_
    refine LW.pure rfl rfl (RV.move rfl) ?_
    refine LW.nil (hK5 _ _ ?_)
    refine CW.block ?_
    replace H := H.pick (L' := [.own A29_0 c29_0 28 2 (List.map encRat r4), .tab A44_0 c44_0 39 hs44_0 3 1 (encM encN r2), .blk b1 24 [.int .i64 a0.points, .slice A_a0_readings a0.readings.length c_a0_readings]]) [1, 0, 3] (by decide) rfl
    replace R0 := H.ext
    refine CW.loop (fun meas ρ wl2 => ∃ (t17_1 : Int) (l4 : List Rat), level_best_L2 a0 r2 meas t17_1 l4 = some res ∧ ρ = [(1, .pointer (some (⟨b1, 0, none⟩))), (2, .slice none 0 0), (3, .slice A29_0 l4.length c29_0), (15, .slice A44_0 r2.length c44_0), (16, .int .i64 ((r2.length : Int))), (17, .int .i64 t17_1)] ∧ Hp w wl2 [.own A29_0 c29_0 28 2 (List.map encRat l4), .tab A44_0 c44_0 39 hs44_0 3 1 (encM encN r2), .blk b1 24 [.int .i64 a0.points, .slice A_a0_readings a0.readings.length c_a0_readings]]) FU ⟨_, ?_, ((0 : Int)), r4, F, rfl, H⟩ ?_
    · exact ⟨rfl, rfl, (look_slice rfl (by first | rfl | (simp; done) | omega | (simp; omega))), (look_slice rfl (by first | rfl | (simp; done) | omega | (simp; omega))), rfl, rfl, trivial⟩
    rintro mk1 _ wl2 ⟨t17_1, l4, F, rfl, H⟩
    have R0 := H.ext
    replace F := level_best_L2_s F
    obtain ⟨mk1, rfl, F⟩ := F
    generalize hrec1 : level_best_L2 a0 r2 mk1 = rec1 at F
    unfold level_best_B2 at F
    refine CW.seq fun K6 hK6 => ?_
    refine CW.region ?_
    refine LW.pure rfl rfl (RV.lss rfl rfl) ?_
    refine LW.nil (hK6 _ _ ?_)
    refine CW.seq fun K7 hK7 => ?_
    by_cases hp1 : t17_1 < ((r2.length : Int))
    ·
      replace F := ite_y hp1 F
      have hq1 := dec_t hp1
      refine CW.condT rfl hq1 ?_
      refine CW.skip (hK7 _ _ ?_)
      refine CW.seqJ (fun ρ wl3 => (∃ (l2 : List Rat), level_best_k2 t17_1 rec1 l2 = some res ∧ ρ = [(1, .pointer (some (⟨b1, 0, none⟩))), (2, .slice none 0 0), (3, .slice A29_0 l2.length c29_0), (15, .slice A44_0 r2.length c44_0), (16, .int .i64 ((r2.length : Int))), (17, .int .i64 t17_1)] ∧ Hp w wl3 [.own A29_0 c29_0 28 2 (List.map encRat l2), .tab A44_0 c44_0 39 hs44_0 3 1 (encM encN r2), .blk b1 24 [.int .i64 a0.points, .slice A_a0_readings a0.readings.length c_a0_readings]])) ?_ ?_
      ·
        rintro _ wl3 ⟨l2, F, rfl, H⟩
        have R0 := H.ext
        unfold level_best_k2 at F
        obtain ⟨hg1, F⟩ := gd_some F
        refine CW.region ?_
        refine LW.pure rfl rfl (RV.add rfl rfl hg1) ?_
        refine LW.pure rfl rfl (RV.move rfl) ?_
        refine LW.nil ?_
        subst hrec1
        refine ⟨mk1, Nat.lt_succ_self _, _, ?_, (t17_1 + 1), l2, F, rfl, H⟩
        exact ⟨rfl, rfl, (look_slice rfl (by first | rfl | (simp; done) | omega | (simp; omega))), (look_slice rfl (by first | rfl | (simp; done) | omega | (simp; omega))), rfl, rfl, trivial⟩
      ·
        intro K8 hK8 jK393
        refine CW.block ?_
        refine CW.seq fun K9 hK9 => ?_
        obtain ⟨x1, hbx1, hx1, F⟩ := ix_some F
        refine CW.region ?_
        obtain ⟨B1, e1, hh1⟩ := (H.tab 1 rfl).hd hx1
        refine LW.pure rfl rfl (RV.indexAddr Ts36 rfl rfl hbx1 ((H.tab 1 rfl).addr_ hx1)) ?_
        refine LW.pure rfl rfl (RV.load1 Tk39 rfl ((H.tab 1 rfl).cell hx1 hh1) rfl) ?_
        refine LW.pure rfl rfl (RV.assign rfl) ?_
        refine LW.nil (hK9 _ _ ?_)
        refine CW.seq fun K10 hK10 => ?_
        obtain ⟨hg2, F⟩ := gd_some F
        obtain ⟨r3, hr3, F⟩ := bnd_some F
        obtain ⟨r1, hr1, F⟩ := bnd_some F
        have H0 := H
        have hz : wl2.heap.size ≤ wl2.heap.size := Nat.le_refl _
        refine CW.draw [5] (XB wl2 [.own A29_0 c29_0 28 2 (List.map encRat l4), .tab A44_0 c44_0 39 hs44_0 3 1 (encM encN r2), .blk b1 24 [.int .i64 a0.points, .slice A_a0_readings a0.readings.length c_a0_readings]] []) (.cons 0 2 (.cons 1 2 (.cons 2 2 (.cons 3 2 (.cons 4 0 (.cons 5 0 (.cons 6 2 .nil))))))) mixed (by kernel_rfl) fun w5 E3 => ?_
        replace H := H.grow E3
        replace R0 := H.ext
        replace hz := Nat.le_trans hz (Ext.size E3)
        refine DW.thru rfl rfl rfl (fun _ EQ => RV.loadA [.int .i64 a0.points, .slice A_a0_readings a0.readings.length c_a0_readings] Tk24 rfl (H.thruB 2 rfl EQ (H0.notX [] 2 rfl (by decide))).cells rfl rfl) ?_
        refine DW.thru rfl rfl rfl (fun _ EQ => RV.move rfl) ?_
        refine DW.thru rfl rfl rfl (fun _ EQ => RV.cutL (l := x1) Ts39 rfl rfl hg2 ((H.tab 1 rfl).rowO hx1 hh1).sl.le rfl) ?_
        refine DW.thru rfl rfl rfl (fun _ EQ => RV.makeFunc (fs := []) (cs := [.pointer (some (⟨b1, 0, none⟩))]) rfl rfl) ?_
        refine DW.sole rfl rfl rfl (OW.call Tc97 rfl (level_balance_ok (a0 := a0) (a1 := (List.drop (Int.toNat 1) x1)) (a2 := (fun x5 => level_best_1 a0 x5)) (h_a0_readings.ext R0) (((H.tab 1 rfl).rowO hx1 hh1).sl.cutL hg2) (fun x5 r hF w6 hE => CallsV.cap Tc103 (by simp) (level_best_1_ok (cap0 := a0) (a0 := x5) ((h_a0_readings.ext R0).ext hE) ((H.blk 2 rfl).cells.ext hE) hF)) hr3) ?_)
        rintro _ w7 ⟨A59_0, c59_0, hs59_0, rfl, E4⟩
        refine ⟨_, rfl, fun _ => E4.ext, ModX.ext E4.ext, ?_⟩
        have Gt1 : ∀ b ∈ (Ck.tab A59_0 c59_0 53 hs59_0 28 2 (encM encRat r3)).bl, wl2.heap.size ≤ b := fun b hb => Nat.le_trans hz (E4.fresh 0 _ rfl b hb)
        replace H : Hp w w7 [.tab A59_0 c59_0 53 hs59_0 28 2 (encM encRat r3), .own A29_0 c29_0 28 2 (List.map encRat l4), .tab A44_0 c44_0 39 hs44_0 3 1 (encM encN r2), .blk b1 24 [.int .i64 a0.points, .slice A_a0_readings a0.readings.length c_a0_readings]] := H.append E4
        replace R0 := H.ext
        replace hz := Nat.le_trans hz (Ext.size E4.ext)
        replace H := H.pick (L' := [.tab A59_0 c59_0 53 hs59_0 28 2 (encM encRat r3), .own A29_0 c29_0 28 2 (List.map encRat l4), .tab A44_0 c44_0 39 hs44_0 3 1 (encM encN r2), .blk b1 24 [.int .i64 a0.points, .slice A_a0_readings a0.readings.length c_a0_readings]]) [0, 1, 2, 3] (by decide) rfl
        replace R0 := H.ext
        obtain ⟨Ex1, HE1, Hz1⟩ := Hp.freezeT (L := [.own A29_0 c29_0 28 2 (List.map encRat l4), .tab A44_0 c44_0 39 hs44_0 3 1 (encM encN r2), .blk b1 24 [.int .i64 a0.points, .slice A_a0_readings a0.readings.length c_a0_readings]]) H
        refine DW.sole rfl rfl rfl (OW.call Tc96 rfl (level_solve_ok (a0 := r3) (R := Ex1) HE1 hr1) ?_)
        rintro _ w8 ⟨hsm60_a0, A60_0, c60_0, rfl, hlm60_a0, hcv60_a0, Hq1⟩
        obtain ⟨Hq1, hz1s, hz1k⟩ := Hz1 w8 _ _ _ [.own A60_0 c60_0 28 2 (List.map encRat r1.1)] hcv60_a0 Hq1
        refine ⟨_, rfl, fun h => absurd h (by decide), ModX.frzB hz1s hz1k (fun b hb => .inl (Gt1 b hb)), ?_⟩
        replace H : Hp w w8 [.tab A59_0 c59_0 53 hsm60_a0 28 2 (encM encRat r1.2), .own A60_0 c60_0 28 2 (List.map encRat r1.1), .own A29_0 c29_0 28 2 (List.map encRat l4), .tab A44_0 c44_0 39 hs44_0 3 1 (encM encN r2), .blk b1 24 [.int .i64 a0.points, .slice A_a0_readings a0.readings.length c_a0_readings]] := Hq1
        replace R0 := H.ext
        replace hz := Nat.le_trans hz hz1s
        refine DW.thru rfl rfl rfl (fun _ EQ => RV.assign rfl) ?_
        refine DW.nil (hK10 _ _ ?_)
        refine CW.seq fun K11 hK11 => ?_
        obtain ⟨hg3, F⟩ := gd_some F
        refine CW.region ?_
        refine LW.pure rfl rfl (RV.move rfl) ?_
        refine LW.pure rfl rfl (RV.cutL (l := x1) Ts39 rfl rfl hg3 ((H.tab 3 rfl).rowO hx1 hh1).sl.le rfl) ?_
        refine LW.pure rfl rfl (RV.len Ts39 rfl) ?_
        refine LW.pure rfl rfl (RV.move rfl) ?_
        refine LW.nil (hK11 _ _ ?_)
        refine CW.block ?_
        replace H := H.pick (L' := [.own A29_0 c29_0 28 2 (List.map encRat l4), .own A60_0 c60_0 28 2 (List.map encRat r1.1), .tab A44_0 c44_0 39 hs44_0 3 1 (encM encN r2), .blk b1 24 [.int .i64 a0.points, .slice A_a0_readings a0.readings.length c_a0_readings]]) [2, 1, 3, 4] (by decide) rfl
        replace R0 := H.ext
        refine CW.loop (fun meas ρ wl4 => ∃ (t30_1 : Int) (l3 : List Rat), level_best_L1 t17_1 rec1 x1 r1 meas t30_1 l3 = some res ∧ ρ = [(1, .pointer (some (⟨b1, 0, none⟩))), (2, .slice none 0 0), (3, .slice A29_0 l3.length c29_0), (6, .slice A60_0 r1.1.length c60_0), (15, .slice A44_0 r2.length c44_0), (16, .int .i64 ((r2.length : Int))), (17, .int .i64 t17_1), (28, .slice ((cutA B1 e1 1 (Int.toNat 1))) ((List.drop (Int.toNat 1) x1).length) ((e1 - (Int.toNat 1)))), (29, .int .i64 (((List.drop (Int.toNat 1) x1).length : Int))), (30, .int .i64 t30_1)] ∧ Hp w wl4 [.own A29_0 c29_0 28 2 (List.map encRat l3), .own A60_0 c60_0 28 2 (List.map encRat r1.1), .tab A44_0 c44_0 39 hs44_0 3 1 (encM encN r2), .blk b1 24 [.int .i64 a0.points, .slice A_a0_readings a0.readings.length c_a0_readings]]) FU ⟨_, ?_, ((0 : Int)), l4, F, rfl, H⟩ ?_
        · exact ⟨rfl, rfl, (look_slice rfl (by first | rfl | (simp; done) | omega | (simp; omega))), (look_slice rfl (by first | rfl | (simp; done) | omega | (simp; omega))), (look_slice rfl (by first | rfl | (simp; done) | omega | (simp; omega))), rfl, rfl, (look_slice rfl (by first | rfl | (simp; done) | omega | (simp; omega))), rfl, rfl, trivial⟩
        rintro mk2 _ wl4 ⟨t30_1, l3, F, rfl, H⟩
        have R0 := H.ext
        replace F := level_best_L1_s F
        obtain ⟨mk2, rfl, F⟩ := F
        generalize hrec2 : level_best_L1 t17_1 rec1 x1 r1 mk2 = rec2 at F
        unfold level_best_B1 at F
        refine CW.seq fun K12 hK12 => ?_
        refine CW.region ?_
        refine LW.pure rfl rfl (RV.lss rfl rfl) ?_
        refine LW.nil (hK12 _ _ ?_)
        refine CW.seq fun K13 hK13 => ?_
        by_cases hp2 : t30_1 < (((List.drop (Int.toNat 1) x1).length : Int))
        ·
          replace F := ite_y hp2 F
          have hq2 := dec_t hp2
          refine CW.condT rfl hq2 ?_
          refine CW.skip (hK13 _ _ ?_)
          refine CW.seq fun K14 hK14 => ?_
          refine CW.block ?_
          refine CW.seq fun K15 hK15 => ?_
          obtain ⟨x2, hbx2, hx2, F⟩ := ix_some F
          refine CW.region ?_
          refine LW.pure rfl rfl (RV.move rfl) ?_
          refine LW.pure rfl rfl (RV.indexAddr Ts39 rfl rfl hbx2 ((((H.tab 2 rfl).rowO hx1 hh1).sl.cutL hg3).addr_ hx2)) ?_
          refine LW.pure rfl rfl (RV.load1 Tk3 rfl ((((H.tab 2 rfl).rowO hx1 hh1).sl.cutL hg3).at_ hx2) rfl) ?_
          refine LW.pure rfl rfl (RV.assign rfl) ?_
          refine LW.pure rfl rfl (RV.assign rfl) ?_
          refine LW.nil (hK15 _ _ ?_)
          obtain ⟨x3, hbx3, hx3, F⟩ := ix_some F
          obtain ⟨x4, hbx4, hx4, F⟩ := ix_some F
          refine CW.region ?_
          refine LW.pure rfl rfl (RV.move rfl) ?_
          refine LW.pure rfl rfl (RV.move rfl) ?_
          refine LW.pure rfl rfl (RV.move rfl) ?_
          refine LW.pure rfl rfl (RV.move rfl) ?_
          refine LW.pure rfl rfl (RV.indexAddr Ts53 rfl rfl hbx3 ((H.own 1 rfl).sl.addr_ hx3)) ?_
          refine LW.pure rfl rfl (RV.loadA [.int .i64 x3.num, .int .i64 x3.den] Tk28 rfl ((H.own 1 rfl).sl.at_ hx3) rfl rfl) ?_
          refine LW.pure rfl rfl (RV.indexAddr Ts53 rfl rfl hbx4 ((H.own 0 rfl).sl.addr_ hx4)) ?_
          refine LW.go rfl rfl (OW.storeO (enc := encRat) (vs := [.int .i64 x3.num, .int .i64 x3.den]) 0 (x3) Tk28 rfl rfl (H.own 0 rfl) (fun _ => rfl) rfl hx4 rfl rfl (by decide) rfl rfl fun w9 M1 O1 => ?_)
          replace H : Hp w w9 [.own A29_0 c29_0 28 2 (List.map encRat ((l3.set (Int.toNat x2) x3))), .own A60_0 c60_0 28 2 (List.map encRat r1.1), .tab A44_0 c44_0 39 hs44_0 3 1 (encM encN r2), .blk b1 24 [.int .i64 a0.points, .slice A_a0_readings a0.readings.length c_a0_readings]] := H.mod 0 rfl M1 O1 (.inl rfl)
          replace R0 := H.ext
          refine LW.nil (hK14 _ _ ?_)
          obtain ⟨hg4, F⟩ := gd_some F
          refine CW.region ?_
          refine LW.pure rfl rfl (RV.add rfl rfl hg4) ?_
          refine LW.pure rfl rfl (RV.move rfl) ?_
          refine LW.nil ?_
          subst hrec2
          refine ⟨mk2, Nat.lt_succ_self _, _, ?_, (t30_1 + 1), ((l3.set (Int.toNat x2) x3)), F, rfl, H⟩
          exact ⟨rfl, rfl, (look_slice rfl (by first | rfl | (simp; done) | omega | (simp; omega))), (look_slice rfl (by first | rfl | (simp; done) | omega | (simp; omega))), (look_slice rfl (by first | rfl | (simp; done) | omega | (simp; omega))), rfl, rfl, (look_slice rfl (by first | rfl | (simp; done) | omega | (simp; omega))), rfl, rfl, trivial⟩
        ·
          replace F := ite_n hp2 F
          have hq2 := dec_f hp2
          refine CW.condF rfl hq2 ?_
          replace H := H.pick (L' := [.own A29_0 c29_0 28 2 (List.map encRat l3), .tab A44_0 c44_0 39 hs44_0 3 1 (encM encN r2), .blk b1 24 [.int .i64 a0.points, .slice A_a0_readings a0.readings.length c_a0_readings]]) [0, 2, 3] (by decide) rfl
          replace R0 := H.ext
          refine CW.exit (jK393 _ _ ⟨_, ?_, ⟨l3, F, rfl, H⟩⟩)
          exact ⟨rfl, rfl, (look_slice rfl (by first | rfl | (simp; done) | omega | (simp; omega))), (look_slice rfl (by first | rfl | (simp; done) | omega | (simp; omega))), rfl, rfl, trivial⟩
    ·
      replace F := ite_n hp1 F
      have hq1 := dec_f hp1
      refine CW.condF rfl hq1 ?_
      replace H := H.pick (L' := [.own A29_0 c29_0 28 2 (List.map encRat l4)]) [0] (by decide) rfl
      replace R0 := H.ext
      refine CW.exit (jK308 _ _ ⟨_, ?_, ⟨l4, F, rfl, H⟩⟩)
      exact ⟨rfl, (look_slice rfl (by first | rfl | (simp; done) | omega | (simp; omega))), trivial⟩
end Go.D1
