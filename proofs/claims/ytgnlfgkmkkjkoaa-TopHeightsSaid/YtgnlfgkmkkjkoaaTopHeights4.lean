/- Lemmas and walks that the proof of this claim uses: D1m12, D1m13, D1m18, D1m19, D1m22, D1m23. -/
import Derived.Test.YtgnlfgkmkkjkoaaTopHeights3
set_option linter.unusedVariables false
set_option linter.unusedSimpArgs false
namespace Go.D1
open Go.Tb Go.Proofs Go.RowKit
theorem Tc70 : callable Try.prog 70 = true := by kernel_rfl
set_option maxRecDepth 20000 in
set_option maxHeartbeats 1000000 in
theorem slices_Clone_Reading_ok {a0 : List Reading} {A_a0 : Option Addr} {c_a0 : Nat} {w : World} {res : List Reading} (h_a0 : Sl w A_a0 c_a0 4 (a0.map encReading)) (F : slices_Clone_Reading a0 = some res) : Calls Try.prog 70 #[.slice A_a0 a0.length c_a0] w (fun e w' => ∃ (A0 : Option Addr) (c0 : Nat), e = .returned (.slice A0 res.length c0) ∧ Hp w w' [.own A0 c0 46 4 (List.map encReading res)]) := by
  cases A_a0 with
  | none =>
    obtain rfl := Sl.none_nil h_a0
    refine calls_of_cw (args := [.slice none (([] : List Reading).length) c_a0]) Try.func70 rfl rfl rfl rfl ?_
    have H := Hp.start w
    have R0 := H.ext
    unfold slices_Clone_Reading at F
    obtain ⟨_, F⟩ := gd_some F
    refine CW.seq fun K1 hK1 => ?_
    refine CW.region ?_
    refine LW.pure rfl rfl (RV.assign rfl) ?_
    refine LW.nil (hK1 _ _ ?_)
    refine CW.seq fun K2 hK2 => ?_
    refine CW.seq fun K3 hK3 => ?_
    refine CW.region ?_
    refine LW.pure rfl rfl (RV.move rfl) ?_
    refine LW.pure rfl rfl (RV.eqnil Ts22 rfl rfl) ?_
    refine LW.nil (hK3 _ _ ?_)
    refine CW.condT rfl rfl ?_
    refine CW.seq fun K4 hK4 => ?_
    refine CW.region ?_
    refine LW.pure rfl rfl (RV.assign rfl) ?_
    refine LW.nil (hK4 _ _ ?_)
    refine CW.ret ?_
    obtain rfl := Option.some.inj F
    refine ⟨_, (ResOK.one rfl), ?_⟩
    replace H := H.nilOwn 46 4
    replace R0 := H.ext
    exact ⟨none, 0, (by first | rfl | (simp; done) | (simp; omega)), H⟩
  | some ad =>
    refine calls_of_cw (args := [.slice ((some ad)) a0.length c_a0]) Try.func70 rfl rfl rfl rfl ?_
    have H := Hp.start w
    have R0 := H.ext
    unfold slices_Clone_Reading at F
    refine CW.seq fun K1 hK1 => ?_
    refine CW.region ?_
    refine LW.pure rfl rfl (RV.assign rfl) ?_
    refine LW.nil (hK1 _ _ ?_)
    refine CW.seq fun K2 hK2 => ?_
    refine CW.seq fun K3 hK3 => ?_
    refine CW.region ?_
    refine LW.pure rfl rfl (RV.move rfl) ?_
    refine LW.pure rfl rfl (RV.eqnil Ts22 rfl rfl) ?_
    refine LW.nil (hK3 _ _ ?_)
    refine CW.condF rfl rfl ?_
    refine CW.skip (hK2 _ _ ?_)
    refine CW.seq fun K4 hK4 => ?_
    obtain ⟨hg1, F⟩ := gd_some F
    refine CW.region ?_
    refine LW.go rfl rfl (OW.buildSlice (e := 46) (vs := []) (cs := []) rfl (fun _ => by kernel_rfl) fun b2 w3 N2 => ?_)
    replace H := H.made' (k := 4) (t := 46) (enc := encReading) (l := ([] : List Reading)) N2 N2.blk (fun _ => rfl) rfl (by first | decide | omega | (simp; done) | (simp; omega))
    replace R0 := H.ext
    refine LW.pure rfl rfl (RV.move rfl) ?_
    refine LW.go rfl rfl (OW.appendG (enc := encReading) (l := ([] : List Reading)) (xs := a0) Ts22 (look_slice rfl (by first | rfl | (simp; done) | (simp; omega))) rfl (H.own 0 rfl) (h_a0.ext R0) (fun _ => rfl) rfl rfl hg1 (by decide) fun A2 c2 w4 O2 M2 D2 => ?_)
    replace H : Hp w w4 [.own A2 c2 46 4 (List.map encReading ((([] : List Reading) ++ a0)))] := H.mod 0 rfl M2 O2 D2
    replace R0 := H.ext
    refine LW.pure rfl rfl (RV.assign rfl) ?_
    refine LW.nil (hK4 _ _ ?_)
    refine CW.ret ?_
    obtain rfl := Option.some.inj F
    refine ⟨_, (ResOK.one rfl), ?_⟩
    exact ⟨A2, c2, (by first | rfl | (simp; done) | (simp; omega)), H⟩
set_option maxRecDepth 20000 in
set_option maxHeartbeats 1000000 in
theorem level_With_ok {a0 : Survey} {a1 : Reading} {A_a0_readings : Option Addr} {c_a0_readings : Nat} {w : World} {res : Survey × Int} (h_a0_readings : Sl w A_a0_readings c_a0_readings 4 (a0.readings.map encReading)) (F : level_With a0 a1 = some res) : Calls Try.prog 29 #[.agg #[.int .i64 a0.points, .slice A_a0_readings a0.readings.length c_a0_readings], .agg #[.int .i64 a1.from_, .int .i64 a1.to_, .int .i64 a1.rise, .int .i64 a1.weight]] w (fun e w' => ∃ (A0_readings : Option Addr) (c0_readings : Nat), e = .returned (.tuple #[.agg #[.int .i64 res.1.points, .slice A0_readings res.1.readings.length c0_readings], .int .i64 res.2]) ∧ Hp w w' [.own A0_readings c0_readings 46 4 (List.map encReading res.1.readings)]) := by
  refine calls_of_cw (args := [.agg #[.int .i64 a0.points, .slice A_a0_readings a0.readings.length c_a0_readings], .agg #[.int .i64 a1.from_, .int .i64 a1.to_, .int .i64 a1.rise, .int .i64 a1.weight]]) Try.func29 rfl rfl rfl rfl ?_
  have H := Hp.start w
  have R0 := H.ext
  unfold level_With at F
  refine CW.seq fun K1 hK1 => ?_
  refine CW.region ?_
  refine LW.go rfl rfl (OW.box rfl fun b1 w1 N1 => ?_)
  replace H := H.new N1 N1.blk
  replace R0 := H.ext
  refine LW.go rfl rfl (OW.box rfl fun b2 w2 N2 => ?_)
  replace H := H.new N2 N2.blk
  replace R0 := H.ext
  refine LW.go rfl rfl (OW.alloc Tz24 fun b3 w3 N3 => ?_)
  replace H := H.new N3 N3.blk
  replace R0 := H.ext
  refine LW.pure rfl rfl (RV.assign rfl) ?_
  refine LW.nil (hK1 _ _ ?_)
  refine CW.seq fun K2 hK2 => ?_
  refine CW.seq fun K3 hK3 => ?_
  obtain ⟨r2, hr2, F⟩ := bnd_some F
  refine CW.region ?_
  refine LW.pure rfl rfl (RV.loadA [.int .i64 a0.points, .slice A_a0_readings a0.readings.length c_a0_readings] Tk24 rfl (H.blk 2 rfl).cells rfl rfl) ?_
  refine LW.go rfl rfl (OW.call Tc25 rfl (level_Validate_ok (a0 := a0) (h_a0_readings.ext R0) hr2) ?_)
  rintro _ w4 ⟨rfl, E1⟩
  refine ⟨_, rfl, ?_⟩
  replace H := H.grow E1
  replace R0 := H.ext
  refine LW.pure rfl rfl (RV.assign rfl) ?_
  refine LW.nil (hK3 _ _ ?_)
  refine CW.seq fun K4 hK4 => ?_
  refine CW.region ?_
  refine LW.pure rfl rfl (RV.move rfl) ?_
  refine LW.pure rfl rfl (RV.nei rfl rfl) ?_
  refine LW.nil (hK4 _ _ ?_)
  by_cases hp1 : r2 = 0
  ·
    replace F := ite_y hp1 F
    have hq1 := dec_t hp1
    refine CW.condF rfl (not_f hq1) ?_
    refine CW.skip (hK2 _ _ ?_)
    refine CW.seqJ (fun ρ wl1 => (∃ (l1 : List Reading) (bk1 : Nat) (Al1 : Option Addr) (cl1 : Nat), level_With_k1 a0 l1 = some res ∧ ρ = [(4, .pointer (some (⟨b3, 0, none⟩))), (5, .int .i64 0), (7, .pointer (some (⟨bk1, 0, none⟩)))] ∧ Hp w wl1 [.own Al1 cl1 46 4 (List.map encReading l1), .blk b3 24 [.int .i64 0, .slice none 0 0], .blk bk1 24 [.int .i64 a0.points, .slice Al1 l1.length cl1]])) ?_ ?_
    ·
      rintro _ wl1 ⟨l1, bk1, Al1, cl1, F, rfl, H⟩
      have R0 := H.ext
      unfold level_With_k1 at F
      refine CW.seq fun K5 hK5 => ?_
      refine CW.seq fun K6 hK6 => ?_
      obtain ⟨r1, hr1, F⟩ := bnd_some F
      refine CW.region ?_
      refine LW.pure rfl rfl (RV.loadA [.int .i64 a0.points, .slice Al1 l1.length cl1] Tk24 rfl (H.blk 2 rfl).cells rfl rfl) ?_
      refine LW.go rfl rfl (OW.call Tc25 rfl (level_Validate_ok (a0 := (⟨a0.points, l1⟩ : Survey)) (H.own 0 rfl).sl hr1) ?_)
      rintro _ w5 ⟨rfl, E2⟩
      refine ⟨_, rfl, ?_⟩
      replace H := H.grow E2
      replace R0 := H.ext
      refine LW.pure rfl rfl (RV.assign rfl) ?_
      refine LW.nil (hK6 _ _ ?_)
      refine CW.seq fun K7 hK7 => ?_
      refine CW.region ?_
      refine LW.pure rfl rfl (RV.move rfl) ?_
      refine LW.pure rfl rfl (RV.nei rfl rfl) ?_
      refine LW.nil (hK7 _ _ ?_)
      by_cases hp2 : r1 = 0
      ·
        replace F := ite_y hp2 F
        have hq2 := dec_t hp2
        refine CW.condF rfl (not_f hq2) ?_
        refine CW.skip (hK5 _ _ ?_)
        refine CW.seq fun K8 hK8 => ?_
        refine CW.region ?_
        refine LW.pure rfl rfl (RV.loadA [.int .i64 a0.points, .slice Al1 l1.length cl1] Tk24 rfl (H.blk 2 rfl).cells rfl rfl) ?_
        refine LW.go rfl rfl (OW.store Tk24 rfl rfl (H.blk 1 rfl) (off := 0) (vs := [.int .i64 a0.points, .slice Al1 l1.length cl1]) rfl rfl rfl rfl rfl fun w6 S1 => ?_)
        replace H : Hp w w6 [.own Al1 cl1 46 4 (List.map encReading l1), .blk b3 24 [.int .i64 a0.points, .slice Al1 l1.length cl1], .blk bk1 24 [.int .i64 a0.points, .slice Al1 l1.length cl1]] := H.stored 1 rfl S1
        replace R0 := H.ext
        refine LW.pure rfl rfl (RV.assign rfl) ?_
        refine LW.nil (hK8 _ _ ?_)
        refine CW.ret ?_
        obtain rfl := Option.some.inj F
        refine ⟨_, (ResOK.two ⟨_, rfl, run_loadVar_agg Tk24 (H.blk 1 rfl).cells (us := [.int .i64 a0.points, .slice Al1 l1.length cl1]) rfl rfl⟩ rfl), ?_⟩
        replace H := H.pick (L' := [.own Al1 cl1 46 4 (List.map encReading l1)]) [0] (by decide) rfl
        replace R0 := H.ext
        exact ⟨Al1, cl1, (by first | rfl | (simp; done) | (simp; omega)), H⟩
      ·
        replace F := ite_n hp2 F
        have hq2 := dec_f hp2
        refine CW.condT rfl (not_t hq2) ?_
        refine CW.seq fun K9 hK9 => ?_
        refine CW.region ?_
        refine LW.pure rfl rfl (RV.build (vs := []) (cs := [.int .i64 0, .slice none 0 0]) rfl (fun _ => by kernel_rfl)) ?_
        refine LW.pure rfl rfl (RV.move rfl) ?_
        refine LW.go rfl rfl (OW.store Tk24 rfl rfl (H.blk 1 rfl) (off := 0) (vs := [.int .i64 0, .slice none 0 0]) rfl rfl rfl rfl rfl fun w7 S2 => ?_)
        replace H : Hp w w7 [.own Al1 cl1 46 4 (List.map encReading l1), .blk b3 24 [.int .i64 0, .slice none 0 0], .blk bk1 24 [.int .i64 a0.points, .slice Al1 l1.length cl1]] := H.stored 1 rfl S2
        replace R0 := H.ext
        refine LW.pure rfl rfl (RV.assign rfl) ?_
        refine LW.nil (hK9 _ _ ?_)
        refine CW.ret ?_
        obtain rfl := Option.some.inj F
        refine ⟨_, (ResOK.two ⟨_, rfl, run_loadVar_agg Tk24 (H.blk 1 rfl).cells (us := [.int .i64 0, .slice none 0 0]) rfl rfl⟩ rfl), ?_⟩
        replace H := H.nilOwn 46 4
        replace R0 := H.ext
        replace H := H.pick (L' := [.own none 0 46 4 (List.map encReading (([] : List Reading)))]) [0] (by decide) rfl
        replace R0 := H.ext
        exact ⟨none, 0, (by first | rfl | (simp; done) | (simp; omega)), H⟩
    ·
      intro K10 hK10 jK21
      obtain ⟨r3, hr3, F⟩ := bnd_some F
      obtain ⟨hg1, F⟩ := gd_some F
      have H0 := H
      have hz : w4.heap.size ≤ w4.heap.size := Nat.le_refl _
      refine CW.draw [7, 10] (XB w4 [.blk b3 24 [.int .i64 0, .slice none 0 0], .blk b2 46 [.int .i64 a1.from_, .int .i64 a1.to_, .int .i64 a1.rise, .int .i64 a1.weight], .blk b1 24 [.int .i64 a0.points, .slice A_a0_readings a0.readings.length c_a0_readings]] []) (.cons 0 2 (.cons 1 2 (.cons 2 2 (.cons 3 2 (.cons 5 2 (.alt 4 (.alt 6 (.alt 7 (.cons 8 2 (.cons 9 0 (.cons 10 0 .nil))) (.cons 9 0 (.cons 7 0 (.cons 8 2 (.cons 10 0 .nil))))) (.cons 9 0 (.cons 6 0 (.cons 7 0 (.cons 8 2 (.cons 10 0 .nil)))))) (.alt 6 (.alt 4 (.alt 7 (.cons 8 2 (.cons 9 0 (.cons 10 0 .nil))) (.cons 9 0 (.cons 7 0 (.cons 8 2 (.cons 10 0 .nil))))) (.cons 9 0 (.cons 4 0 (.cons 7 0 (.cons 8 2 (.cons 10 0 .nil)))))) (.cons 9 0 (.alt 4 (.cons 6 0 (.cons 7 0 (.cons 8 2 (.cons 10 0 .nil)))) (.cons 6 0 (.cons 4 0 (.cons 7 0 (.cons 8 2 (.cons 10 0 .nil)))))))))))))) mixed (by kernel_rfl) fun w8 E3 => ?_
      replace H := H.grow E3
      replace R0 := H.ext
      replace hz := Nat.le_trans hz (Ext.size E3)
      refine DW.thru rfl rfl rfl (fun _ EQ => RV.fieldAddr Tf24_0 rfl) ?_
      refine DW.thru rfl rfl rfl (fun _ EQ => RV.load1 Tk3 rfl ((H.thruB 2 rfl EQ (H0.notX [] 2 rfl (by decide))).cells.off 0) rfl) ?_
      refine DW.thru rfl rfl rfl (fun _ EQ => RV.fieldAddr Tf24_1 rfl) ?_
      refine DW.thru rfl rfl rfl (fun _ EQ => RV.load1 Tk22 rfl ((H.thruB 2 rfl EQ (H0.notX [] 2 rfl (by decide))).cells.off 1) rfl) ?_
      refine DW.thru rfl rfl rfl (fun _ EQ => RV.loadA [.int .i64 a1.from_, .int .i64 a1.to_, .int .i64 a1.rise, .int .i64 a1.weight] Tk46 rfl (H.thruB 1 rfl EQ (H0.notX [] 1 rfl (by decide))).cells rfl rfl) ?_
      refine DW.alt ?_ ?_
      ·
        refine DW.sole rfl rfl rfl (OW.call Tc70 rfl (slices_Clone_Reading_ok (a0 := a0.readings) (h_a0_readings.ext R0) hr3) ?_)
        rintro _ w9 ⟨A12_0, c12_0, rfl, E4⟩
        refine ⟨_, rfl, fun _ => E4.ext, ModX.ext E4.ext, ?_⟩
        have G0_A12_0 : Fresh w4 A12_0 := fun a ha => Nat.le_trans hz (E4.fresh 0 _ rfl a.block (mem_adB.2 ⟨a, ha, rfl⟩))
        replace H : Hp w w9 [.own A12_0 c12_0 46 4 (List.map encReading r3), .blk b3 24 [.int .i64 0, .slice none 0 0], .blk b2 46 [.int .i64 a1.from_, .int .i64 a1.to_, .int .i64 a1.rise, .int .i64 a1.weight], .blk b1 24 [.int .i64 a0.points, .slice A_a0_readings a0.readings.length c_a0_readings]] := H.append E4
        replace R0 := H.ext
        replace hz := Nat.le_trans hz (Ext.size E4.ext)
        refine DW.alt ?_ ?_
        ·
          refine DW.sole rfl rfl rfl (OW.buildSlice (e := 46) (vs := [.agg #[.int .i64 a1.from_, .int .i64 a1.to_, .int .i64 a1.rise, .int .i64 a1.weight]]) (cs := [.int .i64 a1.from_, .int .i64 a1.to_, .int .i64 a1.rise, .int .i64 a1.weight]) rfl (fun _ => by kernel_rfl) fun b4 w10 N4 => ?_)
          refine ⟨fun _ => N4.ext, ModX.ext N4.ext, ?_⟩
          have G0_b4 : w4.heap.size ≤ b4 := by rw [N4.at_]; exact hz
          replace H := H.made' (k := 4) (t := 46) (enc := encReading) (l := ([a1] : List Reading)) N4 N4.blk (fun _ => rfl) rfl (by first | decide | omega | (simp; done) | (simp; omega))
          replace R0 := H.ext
          replace hz := Nat.le_trans hz (Ext.size N4.ext)
          refine DW.alt ?_ ?_
          ·
            refine DW.sole rfl rfl rfl (OW.appendG (enc := encReading) (l := r3) (xs := ([a1] : List Reading)) Ts22 rfl (look_slice rfl (by first | rfl | (simp; done) | (simp; omega))) (H.own 1 rfl) (H.own 0 rfl).sl (fun _ => rfl) rfl rfl hg1 (by decide) fun A1 c1 w11 O1 M1 D1 => ?_)
            have G0_A1 := Fresh.nextZ G0_A12_0 D1 hz
            refine ⟨fun h => absurd h (by decide), M1.modx (XB.newA G0_A12_0), ?_⟩
            replace H : Hp w w11 [.own (some ⟨b4, 0, none⟩) ((([a1] : List Reading)).length) 46 4 (List.map encReading (([a1] : List Reading))), .own A1 c1 46 4 (List.map encReading ((r3 ++ ([a1] : List Reading)))), .blk b3 24 [.int .i64 0, .slice none 0 0], .blk b2 46 [.int .i64 a1.from_, .int .i64 a1.to_, .int .i64 a1.rise, .int .i64 a1.weight], .blk b1 24 [.int .i64 a0.points, .slice A_a0_readings a0.readings.length c_a0_readings]] := H.mod 1 rfl M1 O1 D1
            replace R0 := H.ext
            replace hz := Nat.le_trans hz M1.size
            refine DW.thru rfl rfl rfl (fun _ EQ => RV.build (vs := [.int .i64 a0.points, .slice A1 (((r3 ++ ([a1] : List Reading))).length) c1]) (cs := [.int .i64 a0.points, .slice A1 (((r3 ++ ([a1] : List Reading))).length) c1]) rfl (fun _ => by kernel_rfl)) ?_
            refine DW.sole rfl rfl rfl (OW.alloc Tz24 fun b5 w12 N5 => ?_)
            refine ⟨fun _ => N5.ext, ModX.ext N5.ext, ?_⟩
            have G0_b5 : w4.heap.size ≤ b5 := by rw [N5.at_]; exact hz
            replace H := H.new N5 N5.blk
            replace R0 := H.ext
            replace hz := Nat.le_trans hz (Ext.size N5.ext)
            refine DW.sole rfl rfl rfl (OW.store Tk24 rfl rfl (H.blk 0 rfl) (off := 0) (vs := [.int .i64 a0.points, .slice A1 (((r3 ++ ([a1] : List Reading))).length) c1]) rfl rfl rfl rfl rfl fun w13 S3 => ?_)
            refine ⟨fun h => absurd h (by decide), S3.modx (.inl G0_b5), ?_⟩
            replace H : Hp w w13 [.blk b5 24 [.int .i64 a0.points, .slice A1 (((r3 ++ ([a1] : List Reading))).length) c1], .own (some ⟨b4, 0, none⟩) ((([a1] : List Reading)).length) 46 4 (List.map encReading (([a1] : List Reading))), .own A1 c1 46 4 (List.map encReading ((r3 ++ ([a1] : List Reading)))), .blk b3 24 [.int .i64 0, .slice none 0 0], .blk b2 46 [.int .i64 a1.from_, .int .i64 a1.to_, .int .i64 a1.rise, .int .i64 a1.weight], .blk b1 24 [.int .i64 a0.points, .slice A_a0_readings a0.readings.length c_a0_readings]] := H.stored 0 rfl S3
            replace R0 := H.ext
            replace hz := Nat.le_trans hz (Nat.le_of_eq S3.size.symm)
            replace H := H.pick (L' := [.own A1 c1 46 4 (List.map encReading ((r3 ++ ([a1] : List Reading)))), .blk b3 24 [.int .i64 0, .slice none 0 0], .blk b5 24 [.int .i64 a0.points, .slice A1 (((r3 ++ ([a1] : List Reading))).length) c1]]) [2, 3, 0] (by decide) rfl
            replace R0 := H.ext
            refine DW.nil (jK21 _ _ ⟨_, ?_, ⟨((r3 ++ ([a1] : List Reading))), b5, A1, c1, F, rfl, H⟩⟩)
            exact ⟨rfl, rfl, rfl, trivial⟩
          ·
            refine DW.sole rfl rfl rfl (OW.alloc Tz24 fun b6 w14 N6 => ?_)
            refine ⟨fun _ => N6.ext, ModX.ext N6.ext, ?_⟩
            have G0_b6 : w4.heap.size ≤ b6 := by rw [N6.at_]; exact hz
            replace H := H.new N6 N6.blk
            replace R0 := H.ext
            replace hz := Nat.le_trans hz (Ext.size N6.ext)
            refine DW.sole rfl rfl rfl (OW.appendG (enc := encReading) (l := r3) (xs := ([a1] : List Reading)) Ts22 rfl (look_slice rfl (by first | rfl | (simp; done) | (simp; omega))) (H.own 2 rfl) (H.own 1 rfl).sl (fun _ => rfl) rfl rfl hg1 (by decide) fun A2 c2 w15 O2 M2 D2 => ?_)
            have G0_A2 := Fresh.nextZ G0_A12_0 D2 hz
            refine ⟨fun h => absurd h (by decide), M2.modx (XB.newA G0_A12_0), ?_⟩
            replace H : Hp w w15 [.blk b6 24 [.int .i64 0, .slice none 0 0], .own (some ⟨b4, 0, none⟩) ((([a1] : List Reading)).length) 46 4 (List.map encReading (([a1] : List Reading))), .own A2 c2 46 4 (List.map encReading ((r3 ++ ([a1] : List Reading)))), .blk b3 24 [.int .i64 0, .slice none 0 0], .blk b2 46 [.int .i64 a1.from_, .int .i64 a1.to_, .int .i64 a1.rise, .int .i64 a1.weight], .blk b1 24 [.int .i64 a0.points, .slice A_a0_readings a0.readings.length c_a0_readings]] := H.mod 2 rfl M2 O2 D2
            replace R0 := H.ext
            replace hz := Nat.le_trans hz M2.size
            refine DW.thru rfl rfl rfl (fun _ EQ => RV.build (vs := [.int .i64 a0.points, .slice A2 (((r3 ++ ([a1] : List Reading))).length) c2]) (cs := [.int .i64 a0.points, .slice A2 (((r3 ++ ([a1] : List Reading))).length) c2]) rfl (fun _ => by kernel_rfl)) ?_
            refine DW.sole rfl rfl rfl (OW.store Tk24 rfl rfl (H.blk 0 rfl) (off := 0) (vs := [.int .i64 a0.points, .slice A2 (((r3 ++ ([a1] : List Reading))).length) c2]) rfl rfl rfl rfl rfl fun w16 S4 => ?_)
            refine ⟨fun h => absurd h (by decide), S4.modx (.inl G0_b6), ?_⟩
            replace H : Hp w w16 [.blk b6 24 [.int .i64 a0.points, .slice A2 (((r3 ++ ([a1] : List Reading))).length) c2], .own (some ⟨b4, 0, none⟩) ((([a1] : List Reading)).length) 46 4 (List.map encReading (([a1] : List Reading))), .own A2 c2 46 4 (List.map encReading ((r3 ++ ([a1] : List Reading)))), .blk b3 24 [.int .i64 0, .slice none 0 0], .blk b2 46 [.int .i64 a1.from_, .int .i64 a1.to_, .int .i64 a1.rise, .int .i64 a1.weight], .blk b1 24 [.int .i64 a0.points, .slice A_a0_readings a0.readings.length c_a0_readings]] := H.stored 0 rfl S4
            replace R0 := H.ext
            replace hz := Nat.le_trans hz (Nat.le_of_eq S4.size.symm)
            replace H := H.pick (L' := [.own A2 c2 46 4 (List.map encReading ((r3 ++ ([a1] : List Reading)))), .blk b3 24 [.int .i64 0, .slice none 0 0], .blk b6 24 [.int .i64 a0.points, .slice A2 (((r3 ++ ([a1] : List Reading))).length) c2]]) [2, 3, 0] (by decide) rfl
            replace R0 := H.ext
            refine DW.nil (jK21 _ _ ⟨_, ?_, ⟨((r3 ++ ([a1] : List Reading))), b6, A2, c2, F, rfl, H⟩⟩)
            exact ⟨rfl, rfl, rfl, trivial⟩
        ·
          refine DW.sole rfl rfl rfl (OW.alloc Tz24 fun b7 w17 N7 => ?_)
          refine ⟨fun _ => N7.ext, ModX.ext N7.ext, ?_⟩
          have G0_b7 : w4.heap.size ≤ b7 := by rw [N7.at_]; exact hz
          replace H := H.new N7 N7.blk
          replace R0 := H.ext
          replace hz := Nat.le_trans hz (Ext.size N7.ext)
          refine DW.sole rfl rfl rfl (OW.buildSlice (e := 46) (vs := [.agg #[.int .i64 a1.from_, .int .i64 a1.to_, .int .i64 a1.rise, .int .i64 a1.weight]]) (cs := [.int .i64 a1.from_, .int .i64 a1.to_, .int .i64 a1.rise, .int .i64 a1.weight]) rfl (fun _ => by kernel_rfl) fun b8 w18 N8 => ?_)
          refine ⟨fun _ => N8.ext, ModX.ext N8.ext, ?_⟩
          have G0_b8 : w4.heap.size ≤ b8 := by rw [N8.at_]; exact hz
          replace H := H.made' (k := 4) (t := 46) (enc := encReading) (l := ([a1] : List Reading)) N8 N8.blk (fun _ => rfl) rfl (by first | decide | omega | (simp; done) | (simp; omega))
          replace R0 := H.ext
          replace hz := Nat.le_trans hz (Ext.size N8.ext)
          refine DW.sole rfl rfl rfl (OW.appendG (enc := encReading) (l := r3) (xs := ([a1] : List Reading)) Ts22 rfl (look_slice rfl (by first | rfl | (simp; done) | (simp; omega))) (H.own 2 rfl) (H.own 0 rfl).sl (fun _ => rfl) rfl rfl hg1 (by decide) fun A3 c3 w19 O3 M3 D3 => ?_)
          have G0_A3 := Fresh.nextZ G0_A12_0 D3 hz
          refine ⟨fun h => absurd h (by decide), M3.modx (XB.newA G0_A12_0), ?_⟩
          replace H : Hp w w19 [.own (some ⟨b8, 0, none⟩) ((([a1] : List Reading)).length) 46 4 (List.map encReading (([a1] : List Reading))), .blk b7 24 [.int .i64 0, .slice none 0 0], .own A3 c3 46 4 (List.map encReading ((r3 ++ ([a1] : List Reading)))), .blk b3 24 [.int .i64 0, .slice none 0 0], .blk b2 46 [.int .i64 a1.from_, .int .i64 a1.to_, .int .i64 a1.rise, .int .i64 a1.weight], .blk b1 24 [.int .i64 a0.points, .slice A_a0_readings a0.readings.length c_a0_readings]] := H.mod 2 rfl M3 O3 D3
          replace R0 := H.ext
          replace hz := Nat.le_trans hz M3.size
          refine DW.thru rfl rfl rfl (fun _ EQ => RV.build (vs := [.int .i64 a0.points, .slice A3 (((r3 ++ ([a1] : List Reading))).length) c3]) (cs := [.int .i64 a0.points, .slice A3 (((r3 ++ ([a1] : List Reading))).length) c3]) rfl (fun _ => by kernel_rfl)) ?_
          refine DW.sole rfl rfl rfl (OW.store Tk24 rfl rfl (H.blk 1 rfl) (off := 0) (vs := [.int .i64 a0.points, .slice A3 (((r3 ++ ([a1] : List Reading))).length) c3]) rfl rfl rfl rfl rfl fun w20 S5 => ?_)
          refine ⟨fun h => absurd h (by decide), S5.modx (.inl G0_b7), ?_⟩
          replace H : Hp w w20 [.own (some ⟨b8, 0, none⟩) ((([a1] : List Reading)).length) 46 4 (List.map encReading (([a1] : List Reading))), .blk b7 24 [.int .i64 a0.points, .slice A3 (((r3 ++ ([a1] : List Reading))).length) c3], .own A3 c3 46 4 (List.map encReading ((r3 ++ ([a1] : List Reading)))), .blk b3 24 [.int .i64 0, .slice none 0 0], .blk b2 46 [.int .i64 a1.from_, .int .i64 a1.to_, .int .i64 a1.rise, .int .i64 a1.weight], .blk b1 24 [.int .i64 a0.points, .slice A_a0_readings a0.readings.length c_a0_readings]] := H.stored 1 rfl S5
          replace R0 := H.ext
          replace hz := Nat.le_trans hz (Nat.le_of_eq S5.size.symm)
          replace H := H.pick (L' := [.own A3 c3 46 4 (List.map encReading ((r3 ++ ([a1] : List Reading)))), .blk b3 24 [.int .i64 0, .slice none 0 0], .blk b7 24 [.int .i64 a0.points, .slice A3 (((r3 ++ ([a1] : List Reading))).length) c3]]) [2, 3, 1] (by decide) rfl
          replace R0 := H.ext
          refine DW.nil (jK21 _ _ ⟨_, ?_, ⟨((r3 ++ ([a1] : List Reading))), b7, A3, c3, F, rfl, H⟩⟩)
          exact ⟨rfl, rfl, rfl, trivial⟩
      ·
        refine DW.alt ?_ ?_
        ·
          refine DW.sole rfl rfl rfl (OW.buildSlice (e := 46) (vs := [.agg #[.int .i64 a1.from_, .int .i64 a1.to_, .int .i64 a1.rise, .int .i64 a1.weight]]) (cs := [.int .i64 a1.from_, .int .i64 a1.to_, .int .i64 a1.rise, .int .i64 a1.weight]) rfl (fun _ => by kernel_rfl) fun b9 w21 N9 => ?_)
          refine ⟨fun _ => N9.ext, ModX.ext N9.ext, ?_⟩
          have G0_b9 : w4.heap.size ≤ b9 := by rw [N9.at_]; exact hz
          replace H := H.made' (k := 4) (t := 46) (enc := encReading) (l := ([a1] : List Reading)) N9 N9.blk (fun _ => rfl) rfl (by first | decide | omega | (simp; done) | (simp; omega))
          replace R0 := H.ext
          replace hz := Nat.le_trans hz (Ext.size N9.ext)
          refine DW.alt ?_ ?_
          ·
            refine DW.sole rfl rfl rfl (OW.call Tc70 rfl (slices_Clone_Reading_ok (a0 := a0.readings) (h_a0_readings.ext R0) hr3) ?_)
            rintro _ w22 ⟨A13_0, c13_0, rfl, E5⟩
            refine ⟨_, rfl, fun _ => E5.ext, ModX.ext E5.ext, ?_⟩
            have G0_A13_0 : Fresh w4 A13_0 := fun a ha => Nat.le_trans hz (E5.fresh 0 _ rfl a.block (mem_adB.2 ⟨a, ha, rfl⟩))
            replace H : Hp w w22 [.own A13_0 c13_0 46 4 (List.map encReading r3), .own (some ⟨b9, 0, none⟩) ((([a1] : List Reading)).length) 46 4 (List.map encReading (([a1] : List Reading))), .blk b3 24 [.int .i64 0, .slice none 0 0], .blk b2 46 [.int .i64 a1.from_, .int .i64 a1.to_, .int .i64 a1.rise, .int .i64 a1.weight], .blk b1 24 [.int .i64 a0.points, .slice A_a0_readings a0.readings.length c_a0_readings]] := H.append E5
            replace R0 := H.ext
            replace hz := Nat.le_trans hz (Ext.size E5.ext)
            refine DW.alt ?_ ?_
            ·
              refine DW.sole rfl rfl rfl (OW.appendG (enc := encReading) (l := r3) (xs := ([a1] : List Reading)) Ts22 rfl (look_slice rfl (by first | rfl | (simp; done) | (simp; omega))) (H.own 0 rfl) (H.own 1 rfl).sl (fun _ => rfl) rfl rfl hg1 (by decide) fun A4 c4 w23 O4 M4 D4 => ?_)
              have G0_A4 := Fresh.nextZ G0_A13_0 D4 hz
              refine ⟨fun h => absurd h (by decide), M4.modx (XB.newA G0_A13_0), ?_⟩
              replace H : Hp w w23 [.own A4 c4 46 4 (List.map encReading ((r3 ++ ([a1] : List Reading)))), .own (some ⟨b9, 0, none⟩) ((([a1] : List Reading)).length) 46 4 (List.map encReading (([a1] : List Reading))), .blk b3 24 [.int .i64 0, .slice none 0 0], .blk b2 46 [.int .i64 a1.from_, .int .i64 a1.to_, .int .i64 a1.rise, .int .i64 a1.weight], .blk b1 24 [.int .i64 a0.points, .slice A_a0_readings a0.readings.length c_a0_readings]] := H.mod 0 rfl M4 O4 D4
              replace R0 := H.ext
              replace hz := Nat.le_trans hz M4.size
              refine DW.thru rfl rfl rfl (fun _ EQ => RV.build (vs := [.int .i64 a0.points, .slice A4 (((r3 ++ ([a1] : List Reading))).length) c4]) (cs := [.int .i64 a0.points, .slice A4 (((r3 ++ ([a1] : List Reading))).length) c4]) rfl (fun _ => by kernel_rfl)) ?_
              refine DW.sole rfl rfl rfl (OW.alloc Tz24 fun b10 w24 N10 => ?_)
              refine ⟨fun _ => N10.ext, ModX.ext N10.ext, ?_⟩
              have G0_b10 : w4.heap.size ≤ b10 := by rw [N10.at_]; exact hz
              replace H := H.new N10 N10.blk
              replace R0 := H.ext
              replace hz := Nat.le_trans hz (Ext.size N10.ext)
              refine DW.sole rfl rfl rfl (OW.store Tk24 rfl rfl (H.blk 0 rfl) (off := 0) (vs := [.int .i64 a0.points, .slice A4 (((r3 ++ ([a1] : List Reading))).length) c4]) rfl rfl rfl rfl rfl fun w25 S6 => ?_)
              refine ⟨fun h => absurd h (by decide), S6.modx (.inl G0_b10), ?_⟩
              replace H : Hp w w25 [.blk b10 24 [.int .i64 a0.points, .slice A4 (((r3 ++ ([a1] : List Reading))).length) c4], .own A4 c4 46 4 (List.map encReading ((r3 ++ ([a1] : List Reading)))), .own (some ⟨b9, 0, none⟩) ((([a1] : List Reading)).length) 46 4 (List.map encReading (([a1] : List Reading))), .blk b3 24 [.int .i64 0, .slice none 0 0], .blk b2 46 [.int .i64 a1.from_, .int .i64 a1.to_, .int .i64 a1.rise, .int .i64 a1.weight], .blk b1 24 [.int .i64 a0.points, .slice A_a0_readings a0.readings.length c_a0_readings]] := H.stored 0 rfl S6
              replace R0 := H.ext
              replace hz := Nat.le_trans hz (Nat.le_of_eq S6.size.symm)
              replace H := H.pick (L' := [.own A4 c4 46 4 (List.map encReading ((r3 ++ ([a1] : List Reading)))), .blk b3 24 [.int .i64 0, .slice none 0 0], .blk b10 24 [.int .i64 a0.points, .slice A4 (((r3 ++ ([a1] : List Reading))).length) c4]]) [1, 3, 0] (by decide) rfl
              replace R0 := H.ext
              refine DW.nil (jK21 _ _ ⟨_, ?_, ⟨((r3 ++ ([a1] : List Reading))), b10, A4, c4, F, rfl, H⟩⟩)
              exact ⟨rfl, rfl, rfl, trivial⟩
            ·
              refine DW.sole rfl rfl rfl (OW.alloc Tz24 fun b11 w26 N11 => ?_)
              refine ⟨fun _ => N11.ext, ModX.ext N11.ext, ?_⟩
              have G0_b11 : w4.heap.size ≤ b11 := by rw [N11.at_]; exact hz
              replace H := H.new N11 N11.blk
              replace R0 := H.ext
              replace hz := Nat.le_trans hz (Ext.size N11.ext)
              refine DW.sole rfl rfl rfl (OW.appendG (enc := encReading) (l := r3) (xs := ([a1] : List Reading)) Ts22 rfl (look_slice rfl (by first | rfl | (simp; done) | (simp; omega))) (H.own 1 rfl) (H.own 2 rfl).sl (fun _ => rfl) rfl rfl hg1 (by decide) fun A5 c5 w27 O5 M5 D5 => ?_)
              have G0_A5 := Fresh.nextZ G0_A13_0 D5 hz
              refine ⟨fun h => absurd h (by decide), M5.modx (XB.newA G0_A13_0), ?_⟩
              replace H : Hp w w27 [.blk b11 24 [.int .i64 0, .slice none 0 0], .own A5 c5 46 4 (List.map encReading ((r3 ++ ([a1] : List Reading)))), .own (some ⟨b9, 0, none⟩) ((([a1] : List Reading)).length) 46 4 (List.map encReading (([a1] : List Reading))), .blk b3 24 [.int .i64 0, .slice none 0 0], .blk b2 46 [.int .i64 a1.from_, .int .i64 a1.to_, .int .i64 a1.rise, .int .i64 a1.weight], .blk b1 24 [.int .i64 a0.points, .slice A_a0_readings a0.readings.length c_a0_readings]] := H.mod 1 rfl M5 O5 D5
              replace R0 := H.ext
              replace hz := Nat.le_trans hz M5.size
              refine DW.thru rfl rfl rfl (fun _ EQ => RV.build (vs := [.int .i64 a0.points, .slice A5 (((r3 ++ ([a1] : List Reading))).length) c5]) (cs := [.int .i64 a0.points, .slice A5 (((r3 ++ ([a1] : List Reading))).length) c5]) rfl (fun _ => by kernel_rfl)) ?_
              refine DW.sole rfl rfl rfl (OW.store Tk24 rfl rfl (H.blk 0 rfl) (off := 0) (vs := [.int .i64 a0.points, .slice A5 (((r3 ++ ([a1] : List Reading))).length) c5]) rfl rfl rfl rfl rfl fun w28 S7 => ?_)
              refine ⟨fun h => absurd h (by decide), S7.modx (.inl G0_b11), ?_⟩
              replace H : Hp w w28 [.blk b11 24 [.int .i64 a0.points, .slice A5 (((r3 ++ ([a1] : List Reading))).length) c5], .own A5 c5 46 4 (List.map encReading ((r3 ++ ([a1] : List Reading)))), .own (some ⟨b9, 0, none⟩) ((([a1] : List Reading)).length) 46 4 (List.map encReading (([a1] : List Reading))), .blk b3 24 [.int .i64 0, .slice none 0 0], .blk b2 46 [.int .i64 a1.from_, .int .i64 a1.to_, .int .i64 a1.rise, .int .i64 a1.weight], .blk b1 24 [.int .i64 a0.points, .slice A_a0_readings a0.readings.length c_a0_readings]] := H.stored 0 rfl S7
              replace R0 := H.ext
              replace hz := Nat.le_trans hz (Nat.le_of_eq S7.size.symm)
              replace H := H.pick (L' := [.own A5 c5 46 4 (List.map encReading ((r3 ++ ([a1] : List Reading)))), .blk b3 24 [.int .i64 0, .slice none 0 0], .blk b11 24 [.int .i64 a0.points, .slice A5 (((r3 ++ ([a1] : List Reading))).length) c5]]) [1, 3, 0] (by decide) rfl
              replace R0 := H.ext
              refine DW.nil (jK21 _ _ ⟨_, ?_, ⟨((r3 ++ ([a1] : List Reading))), b11, A5, c5, F, rfl, H⟩⟩)
              exact ⟨rfl, rfl, rfl, trivial⟩
          ·
            refine DW.sole rfl rfl rfl (OW.alloc Tz24 fun b12 w29 N12 => ?_)
            refine ⟨fun _ => N12.ext, ModX.ext N12.ext, ?_⟩
            have G0_b12 : w4.heap.size ≤ b12 := by rw [N12.at_]; exact hz
            replace H := H.new N12 N12.blk
            replace R0 := H.ext
            replace hz := Nat.le_trans hz (Ext.size N12.ext)
            refine DW.sole rfl rfl rfl (OW.call Tc70 rfl (slices_Clone_Reading_ok (a0 := a0.readings) (h_a0_readings.ext R0) hr3) ?_)
            rintro _ w30 ⟨A14_0, c14_0, rfl, E6⟩
            refine ⟨_, rfl, fun _ => E6.ext, ModX.ext E6.ext, ?_⟩
            have G0_A14_0 : Fresh w4 A14_0 := fun a ha => Nat.le_trans hz (E6.fresh 0 _ rfl a.block (mem_adB.2 ⟨a, ha, rfl⟩))
            replace H : Hp w w30 [.own A14_0 c14_0 46 4 (List.map encReading r3), .blk b12 24 [.int .i64 0, .slice none 0 0], .own (some ⟨b9, 0, none⟩) ((([a1] : List Reading)).length) 46 4 (List.map encReading (([a1] : List Reading))), .blk b3 24 [.int .i64 0, .slice none 0 0], .blk b2 46 [.int .i64 a1.from_, .int .i64 a1.to_, .int .i64 a1.rise, .int .i64 a1.weight], .blk b1 24 [.int .i64 a0.points, .slice A_a0_readings a0.readings.length c_a0_readings]] := H.append E6
            replace R0 := H.ext
            replace hz := Nat.le_trans hz (Ext.size E6.ext)
            refine DW.sole rfl rfl rfl (OW.appendG (enc := encReading) (l := r3) (xs := ([a1] : List Reading)) Ts22 rfl (look_slice rfl (by first | rfl | (simp; done) | (simp; omega))) (H.own 0 rfl) (H.own 2 rfl).sl (fun _ => rfl) rfl rfl hg1 (by decide) fun A6 c6 w31 O6 M6 D6 => ?_)
            have G0_A6 := Fresh.nextZ G0_A14_0 D6 hz
            refine ⟨fun h => absurd h (by decide), M6.modx (XB.newA G0_A14_0), ?_⟩
            replace H : Hp w w31 [.own A6 c6 46 4 (List.map encReading ((r3 ++ ([a1] : List Reading)))), .blk b12 24 [.int .i64 0, .slice none 0 0], .own (some ⟨b9, 0, none⟩) ((([a1] : List Reading)).length) 46 4 (List.map encReading (([a1] : List Reading))), .blk b3 24 [.int .i64 0, .slice none 0 0], .blk b2 46 [.int .i64 a1.from_, .int .i64 a1.to_, .int .i64 a1.rise, .int .i64 a1.weight], .blk b1 24 [.int .i64 a0.points, .slice A_a0_readings a0.readings.length c_a0_readings]] := H.mod 0 rfl M6 O6 D6
            replace R0 := H.ext
            replace hz := Nat.le_trans hz M6.size
            refine DW.thru rfl rfl rfl (fun _ EQ => RV.build (vs := [.int .i64 a0.points, .slice A6 (((r3 ++ ([a1] : List Reading))).length) c6]) (cs := [.int .i64 a0.points, .slice A6 (((r3 ++ ([a1] : List Reading))).length) c6]) rfl (fun _ => by kernel_rfl)) ?_
            refine DW.sole rfl rfl rfl (OW.store Tk24 rfl rfl (H.blk 1 rfl) (off := 0) (vs := [.int .i64 a0.points, .slice A6 (((r3 ++ ([a1] : List Reading))).length) c6]) rfl rfl rfl rfl rfl fun w32 S8 => ?_)
            refine ⟨fun h => absurd h (by decide), S8.modx (.inl G0_b12), ?_⟩
            replace H : Hp w w32 [.own A6 c6 46 4 (List.map encReading ((r3 ++ ([a1] : List Reading)))), .blk b12 24 [.int .i64 a0.points, .slice A6 (((r3 ++ ([a1] : List Reading))).length) c6], .own (some ⟨b9, 0, none⟩) ((([a1] : List Reading)).length) 46 4 (List.map encReading (([a1] : List Reading))), .blk b3 24 [.int .i64 0, .slice none 0 0], .blk b2 46 [.int .i64 a1.from_, .int .i64 a1.to_, .int .i64 a1.rise, .int .i64 a1.weight], .blk b1 24 [.int .i64 a0.points, .slice A_a0_readings a0.readings.length c_a0_readings]] := H.stored 1 rfl S8
            replace R0 := H.ext
            replace hz := Nat.le_trans hz (Nat.le_of_eq S8.size.symm)
            replace H := H.pick (L' := [.own A6 c6 46 4 (List.map encReading ((r3 ++ ([a1] : List Reading)))), .blk b3 24 [.int .i64 0, .slice none 0 0], .blk b12 24 [.int .i64 a0.points, .slice A6 (((r3 ++ ([a1] : List Reading))).length) c6]]) [0, 3, 1] (by decide) rfl
            replace R0 := H.ext
            refine DW.nil (jK21 _ _ ⟨_, ?_, ⟨((r3 ++ ([a1] : List Reading))), b12, A6, c6, F, rfl, H⟩⟩)
            exact ⟨rfl, rfl, rfl, trivial⟩
        ·
          refine DW.sole rfl rfl rfl (OW.alloc Tz24 fun b13 w33 N13 => ?_)
          refine ⟨fun _ => N13.ext, ModX.ext N13.ext, ?_⟩
          have G0_b13 : w4.heap.size ≤ b13 := by rw [N13.at_]; exact hz
          replace H := H.new N13 N13.blk
          replace R0 := H.ext
          replace hz := Nat.le_trans hz (Ext.size N13.ext)
          refine DW.alt ?_ ?_
          ·
            refine DW.sole rfl rfl rfl (OW.call Tc70 rfl (slices_Clone_Reading_ok (a0 := a0.readings) (h_a0_readings.ext R0) hr3) ?_)
            rintro _ w34 ⟨A15_0, c15_0, rfl, E7⟩
            refine ⟨_, rfl, fun _ => E7.ext, ModX.ext E7.ext, ?_⟩
            have G0_A15_0 : Fresh w4 A15_0 := fun a ha => Nat.le_trans hz (E7.fresh 0 _ rfl a.block (mem_adB.2 ⟨a, ha, rfl⟩))
            replace H : Hp w w34 [.own A15_0 c15_0 46 4 (List.map encReading r3), .blk b13 24 [.int .i64 0, .slice none 0 0], .blk b3 24 [.int .i64 0, .slice none 0 0], .blk b2 46 [.int .i64 a1.from_, .int .i64 a1.to_, .int .i64 a1.rise, .int .i64 a1.weight], .blk b1 24 [.int .i64 a0.points, .slice A_a0_readings a0.readings.length c_a0_readings]] := H.append E7
            replace R0 := H.ext
            replace hz := Nat.le_trans hz (Ext.size E7.ext)
            refine DW.sole rfl rfl rfl (OW.buildSlice (e := 46) (vs := [.agg #[.int .i64 a1.from_, .int .i64 a1.to_, .int .i64 a1.rise, .int .i64 a1.weight]]) (cs := [.int .i64 a1.from_, .int .i64 a1.to_, .int .i64 a1.rise, .int .i64 a1.weight]) rfl (fun _ => by kernel_rfl) fun b14 w35 N14 => ?_)
            refine ⟨fun _ => N14.ext, ModX.ext N14.ext, ?_⟩
            have G0_b14 : w4.heap.size ≤ b14 := by rw [N14.at_]; exact hz
            replace H := H.made' (k := 4) (t := 46) (enc := encReading) (l := ([a1] : List Reading)) N14 N14.blk (fun _ => rfl) rfl (by first | decide | omega | (simp; done) | (simp; omega))
            replace R0 := H.ext
            replace hz := Nat.le_trans hz (Ext.size N14.ext)
            refine DW.sole rfl rfl rfl (OW.appendG (enc := encReading) (l := r3) (xs := ([a1] : List Reading)) Ts22 rfl (look_slice rfl (by first | rfl | (simp; done) | (simp; omega))) (H.own 1 rfl) (H.own 0 rfl).sl (fun _ => rfl) rfl rfl hg1 (by decide) fun A7 c7 w36 O7 M7 D7 => ?_)
            have G0_A7 := Fresh.nextZ G0_A15_0 D7 hz
            refine ⟨fun h => absurd h (by decide), M7.modx (XB.newA G0_A15_0), ?_⟩
            replace H : Hp w w36 [.own (some ⟨b14, 0, none⟩) ((([a1] : List Reading)).length) 46 4 (List.map encReading (([a1] : List Reading))), .own A7 c7 46 4 (List.map encReading ((r3 ++ ([a1] : List Reading)))), .blk b13 24 [.int .i64 0, .slice none 0 0], .blk b3 24 [.int .i64 0, .slice none 0 0], .blk b2 46 [.int .i64 a1.from_, .int .i64 a1.to_, .int .i64 a1.rise, .int .i64 a1.weight], .blk b1 24 [.int .i64 a0.points, .slice A_a0_readings a0.readings.length c_a0_readings]] := H.mod 1 rfl M7 O7 D7
            replace R0 := H.ext
            replace hz := Nat.le_trans hz M7.size
            refine DW.thru rfl rfl rfl (fun _ EQ => RV.build (vs := [.int .i64 a0.points, .slice A7 (((r3 ++ ([a1] : List Reading))).length) c7]) (cs := [.int .i64 a0.points, .slice A7 (((r3 ++ ([a1] : List Reading))).length) c7]) rfl (fun _ => by kernel_rfl)) ?_
            refine DW.sole rfl rfl rfl (OW.store Tk24 rfl rfl (H.blk 2 rfl) (off := 0) (vs := [.int .i64 a0.points, .slice A7 (((r3 ++ ([a1] : List Reading))).length) c7]) rfl rfl rfl rfl rfl fun w37 S9 => ?_)
            refine ⟨fun h => absurd h (by decide), S9.modx (.inl G0_b13), ?_⟩
            replace H : Hp w w37 [.own (some ⟨b14, 0, none⟩) ((([a1] : List Reading)).length) 46 4 (List.map encReading (([a1] : List Reading))), .own A7 c7 46 4 (List.map encReading ((r3 ++ ([a1] : List Reading)))), .blk b13 24 [.int .i64 a0.points, .slice A7 (((r3 ++ ([a1] : List Reading))).length) c7], .blk b3 24 [.int .i64 0, .slice none 0 0], .blk b2 46 [.int .i64 a1.from_, .int .i64 a1.to_, .int .i64 a1.rise, .int .i64 a1.weight], .blk b1 24 [.int .i64 a0.points, .slice A_a0_readings a0.readings.length c_a0_readings]] := H.stored 2 rfl S9
            replace R0 := H.ext
            replace hz := Nat.le_trans hz (Nat.le_of_eq S9.size.symm)
            replace H := H.pick (L' := [.own A7 c7 46 4 (List.map encReading ((r3 ++ ([a1] : List Reading)))), .blk b3 24 [.int .i64 0, .slice none 0 0], .blk b13 24 [.int .i64 a0.points, .slice A7 (((r3 ++ ([a1] : List Reading))).length) c7]]) [1, 3, 2] (by decide) rfl
            replace R0 := H.ext
            refine DW.nil (jK21 _ _ ⟨_, ?_, ⟨((r3 ++ ([a1] : List Reading))), b13, A7, c7, F, rfl, H⟩⟩)
            exact ⟨rfl, rfl, rfl, trivial⟩
          ·
            refine DW.sole rfl rfl rfl (OW.buildSlice (e := 46) (vs := [.agg #[.int .i64 a1.from_, .int .i64 a1.to_, .int .i64 a1.rise, .int .i64 a1.weight]]) (cs := [.int .i64 a1.from_, .int .i64 a1.to_, .int .i64 a1.rise, .int .i64 a1.weight]) rfl (fun _ => by kernel_rfl) fun b15 w38 N15 => ?_)
            refine ⟨fun _ => N15.ext, ModX.ext N15.ext, ?_⟩
            have G0_b15 : w4.heap.size ≤ b15 := by rw [N15.at_]; exact hz
            replace H := H.made' (k := 4) (t := 46) (enc := encReading) (l := ([a1] : List Reading)) N15 N15.blk (fun _ => rfl) rfl (by first | decide | omega | (simp; done) | (simp; omega))
            replace R0 := H.ext
            replace hz := Nat.le_trans hz (Ext.size N15.ext)
            refine DW.sole rfl rfl rfl (OW.call Tc70 rfl (slices_Clone_Reading_ok (a0 := a0.readings) (h_a0_readings.ext R0) hr3) ?_)
            rintro _ w39 ⟨A16_0, c16_0, rfl, E8⟩
            refine ⟨_, rfl, fun _ => E8.ext, ModX.ext E8.ext, ?_⟩
            have G0_A16_0 : Fresh w4 A16_0 := fun a ha => Nat.le_trans hz (E8.fresh 0 _ rfl a.block (mem_adB.2 ⟨a, ha, rfl⟩))
            replace H : Hp w w39 [.own A16_0 c16_0 46 4 (List.map encReading r3), .own (some ⟨b15, 0, none⟩) ((([a1] : List Reading)).length) 46 4 (List.map encReading (([a1] : List Reading))), .blk b13 24 [.int .i64 0, .slice none 0 0], .blk b3 24 [.int .i64 0, .slice none 0 0], .blk b2 46 [.int .i64 a1.from_, .int .i64 a1.to_, .int .i64 a1.rise, .int .i64 a1.weight], .blk b1 24 [.int .i64 a0.points, .slice A_a0_readings a0.readings.length c_a0_readings]] := H.append E8
            replace R0 := H.ext
            replace hz := Nat.le_trans hz (Ext.size E8.ext)
            refine DW.sole rfl rfl rfl (OW.appendG (enc := encReading) (l := r3) (xs := ([a1] : List Reading)) Ts22 rfl (look_slice rfl (by first | rfl | (simp; done) | (simp; omega))) (H.own 0 rfl) (H.own 1 rfl).sl (fun _ => rfl) rfl rfl hg1 (by decide) fun A8 c8 w40 O8 M8 D8 => ?_)
            have G0_A8 := Fresh.nextZ G0_A16_0 D8 hz
            refine ⟨fun h => absurd h (by decide), M8.modx (XB.newA G0_A16_0), ?_⟩
            replace H : Hp w w40 [.own A8 c8 46 4 (List.map encReading ((r3 ++ ([a1] : List Reading)))), .own (some ⟨b15, 0, none⟩) ((([a1] : List Reading)).length) 46 4 (List.map encReading (([a1] : List Reading))), .blk b13 24 [.int .i64 0, .slice none 0 0], .blk b3 24 [.int .i64 0, .slice none 0 0], .blk b2 46 [.int .i64 a1.from_, .int .i64 a1.to_, .int .i64 a1.rise, .int .i64 a1.weight], .blk b1 24 [.int .i64 a0.points, .slice A_a0_readings a0.readings.length c_a0_readings]] := H.mod 0 rfl M8 O8 D8
            replace R0 := H.ext
            replace hz := Nat.le_trans hz M8.size
            refine DW.thru rfl rfl rfl (fun _ EQ => RV.build (vs := [.int .i64 a0.points, .slice A8 (((r3 ++ ([a1] : List Reading))).length) c8]) (cs := [.int .i64 a0.points, .slice A8 (((r3 ++ ([a1] : List Reading))).length) c8]) rfl (fun _ => by kernel_rfl)) ?_
            refine DW.sole rfl rfl rfl (OW.store Tk24 rfl rfl (H.blk 2 rfl) (off := 0) (vs := [.int .i64 a0.points, .slice A8 (((r3 ++ ([a1] : List Reading))).length) c8]) rfl rfl rfl rfl rfl fun w41 S10 => ?_)
            refine ⟨fun h => absurd h (by decide), S10.modx (.inl G0_b13), ?_⟩
            replace H : Hp w w41 [.own A8 c8 46 4 (List.map encReading ((r3 ++ ([a1] : List Reading)))), .own (some ⟨b15, 0, none⟩) ((([a1] : List Reading)).length) 46 4 (List.map encReading (([a1] : List Reading))), .blk b13 24 [.int .i64 a0.points, .slice A8 (((r3 ++ ([a1] : List Reading))).length) c8], .blk b3 24 [.int .i64 0, .slice none 0 0], .blk b2 46 [.int .i64 a1.from_, .int .i64 a1.to_, .int .i64 a1.rise, .int .i64 a1.weight], .blk b1 24 [.int .i64 a0.points, .slice A_a0_readings a0.readings.length c_a0_readings]] := H.stored 2 rfl S10
            replace R0 := H.ext
            replace hz := Nat.le_trans hz (Nat.le_of_eq S10.size.symm)
            replace H := H.pick (L' := [.own A8 c8 46 4 (List.map encReading ((r3 ++ ([a1] : List Reading)))), .blk b3 24 [.int .i64 0, .slice none 0 0], .blk b13 24 [.int .i64 a0.points, .slice A8 (((r3 ++ ([a1] : List Reading))).length) c8]]) [0, 3, 2] (by decide) rfl
            replace R0 := H.ext
            refine DW.nil (jK21 _ _ ⟨_, ?_, ⟨((r3 ++ ([a1] : List Reading))), b13, A8, c8, F, rfl, H⟩⟩)
            exact ⟨rfl, rfl, rfl, trivial⟩
  ·
    replace F := ite_n hp1 F
    have hq1 := dec_f hp1
    refine CW.condT rfl (not_t hq1) ?_
    refine CW.seq fun K11 hK11 => ?_
    refine CW.region ?_
    refine LW.pure rfl rfl (RV.build (vs := []) (cs := [.int .i64 0, .slice none 0 0]) rfl (fun _ => by kernel_rfl)) ?_
    refine LW.pure rfl rfl (RV.move rfl) ?_
    refine LW.go rfl rfl (OW.store Tk24 rfl rfl (H.blk 0 rfl) (off := 0) (vs := [.int .i64 0, .slice none 0 0]) rfl rfl rfl rfl rfl fun w42 S11 => ?_)
    replace H : Hp w w42 [.blk b3 24 [.int .i64 0, .slice none 0 0], .blk b2 46 [.int .i64 a1.from_, .int .i64 a1.to_, .int .i64 a1.rise, .int .i64 a1.weight], .blk b1 24 [.int .i64 a0.points, .slice A_a0_readings a0.readings.length c_a0_readings]] := H.stored 0 rfl S11
    replace R0 := H.ext
    refine LW.pure rfl rfl (RV.assign rfl) ?_
    refine LW.nil (hK11 _ _ ?_)
    refine CW.ret ?_
    obtain rfl := Option.some.inj F
    refine ⟨_, (ResOK.two ⟨_, rfl, run_loadVar_agg Tk24 (H.blk 0 rfl).cells (us := [.int .i64 0, .slice none 0 0]) rfl rfl⟩ rfl), ?_⟩
    replace H := H.nilOwn 46 4
    replace R0 := H.ext
    replace H := H.pick (L' := [.own none 0 46 4 (List.map encReading (([] : List Reading)))]) [0] (by decide) rfl
    replace R0 := H.ext
    exact ⟨none, 0, (by first | rfl | (simp; done) | (simp; omega)), H⟩
end Go.D1

set_option linter.unusedVariables false
set_option linter.unusedSimpArgs false
namespace Go.D1
open Go.Tb Go.Proofs Go.RowKit
theorem Tc29 : callable Try.prog 29 = true := by kernel_rfl
end Go.D1

set_option linter.unusedVariables false
set_option linter.unusedSimpArgs false
namespace Go.D1
open Go.Tb Go.Proofs Go.RowKit
theorem Tc76 : callable Try.prog 76 = true := by kernel_rfl
set_option maxRecDepth 20000 in
set_option maxHeartbeats 1000000 in
theorem level_residuals_ok {a0 : Survey} {A_a0_readings : Option Addr} {c_a0_readings : Nat} {w : World} {res : (List Rat)} (h_a0_readings : Sl w A_a0_readings c_a0_readings 4 (a0.readings.map encReading)) (F : level_residuals a0 = some res) : Calls Try.prog 76 #[.agg #[.int .i64 a0.points, .slice A_a0_readings a0.readings.length c_a0_readings]] w (fun e w' => ∃ (A1 : Option Addr) (c1 : Nat), e = .returned (.slice A1 res.length c1) ∧ Hp w w' [.own A1 c1 28 2 (List.map encRat res)]) := by
  refine calls_of_cw (args := [.agg #[.int .i64 a0.points, .slice A_a0_readings a0.readings.length c_a0_readings]]) Try.func76 rfl rfl rfl rfl ?_
  have H := Hp.start w
  have R0 := H.ext
  unfold level_residuals at F
  refine CW.seq fun K1 hK1 => ?_
  refine CW.region ?_
  refine LW.go rfl rfl (OW.box rfl fun b1 w1 N1 => ?_)
  replace H := H.new N1 N1.blk
  replace R0 := H.ext
  refine LW.pure rfl rfl (RV.assign rfl) ?_
  refine LW.nil (hK1 _ _ ?_)
  refine CW.seq fun K2 hK2 => ?_
  obtain ⟨r1, hr1, F⟩ := bnd_some F
  refine CW.region ?_
  refine LW.pure rfl rfl (RV.loadA [.int .i64 a0.points, .slice A_a0_readings a0.readings.length c_a0_readings] Tk24 rfl (H.blk 0 rfl).cells rfl rfl) ?_
  refine LW.go rfl rfl (OW.call Tc74 rfl (level_best_ok (a0 := a0) (h_a0_readings.ext R0) hr1) ?_)
  rintro _ w2 ⟨A15_0, c15_0, rfl, E1⟩
  refine ⟨_, rfl, ?_⟩
  replace H : Hp w w2 [.own A15_0 c15_0 28 2 (List.map encRat r1), .blk b1 24 [.int .i64 a0.points, .slice A_a0_readings a0.readings.length c_a0_readings]] := H.append E1
  replace R0 := H.ext
  refine LW.pure rfl rfl (RV.assign rfl) ?_
  refine LW.nil (hK2 _ _ ?_)
  refine CW.seq fun K3 hK3 => ?_
  refine CW.region ?_
  refine LW.pure rfl rfl (RV.assign rfl) ?_
  refine LW.nil (hK3 _ _ ?_)
  refine CW.seqJ (fun ρ wl1 => (∃ (l1 : List Rat) (Al1 : Option Addr) (cl1 : Nat), level_residuals_k1 l1 = some res ∧ ρ = [(2, .slice none 0 0), (4, .slice Al1 l1.length cl1)] ∧ Hp w wl1 [.own Al1 cl1 28 2 (List.map encRat l1)])) ?_ ?_
  ·
    rintro _ wl1 ⟨l1, Al1, cl1, F, rfl, H⟩
    have R0 := H.ext
    unfold level_residuals_k1 at F
    refine CW.seq fun K4 hK4 => ?_
    refine CW.region ?_
    refine LW.pure rfl rfl (RV.move rfl) ?_
    refine LW.pure rfl rfl (RV.assign rfl) ?_
    refine LW.nil (hK4 _ _ ?_)
    refine CW.ret ?_
    obtain rfl := Option.some.inj F
    refine ⟨_, (ResOK.one rfl), ?_⟩
    exact ⟨Al1, cl1, (by first | rfl | (simp; done) | (simp; omega)), H⟩
  ·
    intro K5 hK5 jK49
    refine CW.seq fun K6 hK6 => ?_
    refine CW.region ?_
    refine LW.pure rfl rfl (RV.fieldAddr Tf24_1 rfl) ?_
    refine LW.pure rfl rfl (RV.load1 Tk22 rfl ((H.blk 1 rfl).cells.off 1) rfl) ?_
    refine LW.pure rfl rfl (RV.len Ts22 rfl) ?_
    refine LW.pure rfl rfl (RV.move rfl) ?_
    refine LW.nil (hK6 _ _ ?_)
    refine CW.block ?_
    replace H := H.nilOwn 28 2
    replace R0 := H.ext
    replace H := H.pick (L' := [.own A15_0 c15_0 28 2 (List.map encRat r1), .own none 0 28 2 (List.map encRat (([] : List Rat)))]) [1, 0] (by decide) rfl
    replace R0 := H.ext
    refine CW.loop (fun meas ρ wl2 => ∃ (t12_1 : Int) (l2 : List Rat) (Al2 : Option Addr) (cl2 : Nat), level_residuals_L1 a0 r1 meas t12_1 l2 = some res ∧ ρ = [(2, .slice none 0 0), (3, .slice A15_0 r1.length c15_0), (4, .slice Al2 l2.length cl2), (10, .slice A_a0_readings a0.readings.length c_a0_readings), (11, .int .i64 ((a0.readings.length : Int))), (12, .int .i64 t12_1)] ∧ Hp w wl2 [.own A15_0 c15_0 28 2 (List.map encRat r1), .own Al2 cl2 28 2 (List.map encRat l2)]) FU ⟨_, ?_, ((0 : Int)), (([] : List Rat)), none, 0, F, rfl, H⟩ ?_
    · exact ⟨rfl, (look_slice rfl (by first | rfl | (simp; done) | omega | (simp; omega))), (look_slice rfl (by first | rfl | (simp; done) | omega | (simp; omega))), rfl, rfl, rfl, trivial⟩
    rintro mk1 _ wl2 ⟨t12_1, l2, Al2, cl2, F, rfl, H⟩
    have R0 := H.ext
    replace F := level_residuals_L1_s F
    obtain ⟨mk1, rfl, F⟩ := F
    generalize hrec1 : level_residuals_L1 a0 r1 mk1 = rec1 at F
    unfold level_residuals_B1 at F
    refine CW.seq fun K7 hK7 => ?_
    refine CW.region ?_
    refine LW.pure rfl rfl (RV.lss rfl rfl) ?_
    refine LW.nil (hK7 _ _ ?_)
    refine CW.seq fun K8 hK8 => ?_
    by_cases hp1 : t12_1 < ((a0.readings.length : Int))
    ·
      replace F := ite_y hp1 F
      have hq1 := dec_t hp1
      refine CW.condT rfl hq1 ?_
      refine CW.skip (hK8 _ _ ?_)
      refine CW.seq fun K9 hK9 => ?_
      refine CW.block ?_
      refine CW.seq fun K10 hK10 => ?_
      obtain ⟨x1, hbx1, hx1, F⟩ := ix_some F
      refine CW.region ?_
      refine LW.pure rfl rfl (RV.indexAddr Ts22 rfl rfl hbx1 (h_a0_readings.addr_ hx1)) ?_
      refine LW.pure rfl rfl (RV.loadA [.int .i64 x1.from_, .int .i64 x1.to_, .int .i64 x1.rise, .int .i64 x1.weight] Tk46 rfl ((h_a0_readings.at_ hx1).ext R0) rfl rfl) ?_
      refine LW.go rfl rfl (OW.alloc Tz46 fun b2 w3 N2 => ?_)
      replace H := H.new N2 N2.blk
      replace R0 := H.ext
      refine LW.go rfl rfl (OW.store Tk46 rfl rfl (H.blk 0 rfl) (off := 0) (vs := [.int .i64 x1.from_, .int .i64 x1.to_, .int .i64 x1.rise, .int .i64 x1.weight]) rfl rfl rfl rfl rfl fun w4 S1 => ?_)
      replace H : Hp w w4 [.blk b2 46 [.int .i64 x1.from_, .int .i64 x1.to_, .int .i64 x1.rise, .int .i64 x1.weight], .own A15_0 c15_0 28 2 (List.map encRat r1), .own Al2 cl2 28 2 (List.map encRat l2)] := H.stored 0 rfl S1
      replace R0 := H.ext
      refine LW.nil (hK10 _ _ ?_)
      obtain ⟨x2, hbx2, hx2, F⟩ := ix_some F
      obtain ⟨x3, hbx3, hx3, F⟩ := ix_some F
      obtain ⟨r2, hr2, F⟩ := bnd_some F
      obtain ⟨r3, hr3, F⟩ := bnd_some F
      obtain ⟨hg1, F⟩ := gd_some F
      have H0 := H
      have hz : w4.heap.size ≤ w4.heap.size := Nat.le_refl _
      refine CW.draw [17] (XB w4 [.blk b2 46 [.int .i64 x1.from_, .int .i64 x1.to_, .int .i64 x1.rise, .int .i64 x1.weight], .own A15_0 c15_0 28 2 (List.map encRat r1), .own Al2 cl2 28 2 (List.map encRat l2)] [2]) (.cons 0 1 (.cons 1 2 (.cons 2 2 (.cons 3 2 (.cons 4 2 (.cons 5 2 (.cons 6 2 (.cons 7 2 (.cons 8 2 (.cons 9 2 (.cons 10 2 (.cons 11 2 (.cons 12 2 (.cons 13 2 (.cons 14 0 (.cons 15 0 (.cons 16 0 (.cons 17 0 (.cons 18 2 .nil))))))))))))))))))) mixed (by kernel_rfl) fun w5 E2 => ?_
      replace H := H.grow E2
      replace R0 := H.ext
      replace hz := Nat.le_trans hz (Ext.size E2)
      refine DW.fix rfl rfl rfl (fun _ EQ => RV.move rfl) ?_
      refine DW.thru rfl rfl rfl (fun _ EQ => RV.fieldAddr Tf46_2 rfl) ?_
      refine DW.thru rfl rfl rfl (fun _ EQ => RV.load1 Tk3 rfl ((H.thruB 0 rfl EQ (H0.notX [2] 0 rfl (by decide))).cells.off 2) rfl) ?_
      refine DW.thru rfl rfl rfl (fun _ EQ => RV.build (vs := [.int .i64 x1.rise, .int .i64 1]) (cs := [.int .i64 x1.rise, .int .i64 1]) rfl (fun _ => by kernel_rfl)) ?_
      refine DW.thru rfl rfl rfl (fun _ EQ => RV.move rfl) ?_
      refine DW.thru rfl rfl rfl (fun _ EQ => RV.fieldAddr Tf46_1 rfl) ?_
      refine DW.thru rfl rfl rfl (fun _ EQ => RV.load1 Tk3 rfl ((H.thruB 0 rfl EQ (H0.notX [2] 0 rfl (by decide))).cells.off 1) rfl) ?_
      refine DW.thru rfl rfl rfl (fun _ EQ => RV.indexAddr Ts53 rfl rfl hbx2 ((H.own 1 rfl).sl.addr_ hx2)) ?_
      refine DW.thru rfl rfl rfl (fun _ EQ => RV.loadA [.int .i64 x2.num, .int .i64 x2.den] Tk28 rfl ((H.thruO 1 rfl EQ (H0.notX [2] 1 rfl (by decide))).sl.at_ hx2) rfl rfl) ?_
      refine DW.thru rfl rfl rfl (fun _ EQ => RV.move rfl) ?_
      refine DW.thru rfl rfl rfl (fun _ EQ => RV.fieldAddr Tf46_0 rfl) ?_
      refine DW.thru rfl rfl rfl (fun _ EQ => RV.load1 Tk3 rfl ((H.thruB 0 rfl EQ (H0.notX [2] 0 rfl (by decide))).cells.off 0) rfl) ?_
      refine DW.thru rfl rfl rfl (fun _ EQ => RV.indexAddr Ts53 rfl rfl hbx3 ((H.own 1 rfl).sl.addr_ hx3)) ?_
      refine DW.thru rfl rfl rfl (fun _ EQ => RV.loadA [.int .i64 x3.num, .int .i64 x3.den] Tk28 rfl ((H.thruO 1 rfl EQ (H0.notX [2] 1 rfl (by decide))).sl.at_ hx3) rfl rfl) ?_
      refine DW.sole rfl rfl rfl (OW.call Tc105 rfl (level_sub_ok (a0 := x2) (a1 := x3) hr2) ?_)
      rintro _ w6 ⟨rfl, E3⟩
      refine ⟨_, rfl, fun _ => E3, ModX.ext E3, ?_⟩
      replace H := H.grow E3
      replace R0 := H.ext
      replace hz := Nat.le_trans hz (Ext.size E3)
      refine DW.sole rfl rfl rfl (OW.call Tc105 rfl (level_sub_ok (a0 := (⟨x1.rise, 1⟩ : Rat)) (a1 := r2) hr3) ?_)
      rintro _ w7 ⟨rfl, E4⟩
      refine ⟨_, rfl, fun _ => E4, ModX.ext E4, ?_⟩
      replace H := H.grow E4
      replace R0 := H.ext
      replace hz := Nat.le_trans hz (Ext.size E4)
      refine DW.sole rfl rfl rfl (OW.buildSlice (e := 28) (vs := [.agg #[.int .i64 r3.num, .int .i64 r3.den]]) (cs := [.int .i64 r3.num, .int .i64 r3.den]) rfl (fun _ => by kernel_rfl) fun b3 w8 N3 => ?_)
      refine ⟨fun _ => N3.ext, ModX.ext N3.ext, ?_⟩
      have G0_b3 : w4.heap.size ≤ b3 := by rw [N3.at_]; exact hz
      replace H := H.made' (k := 2) (t := 28) (enc := encRat) (l := ([r3] : List Rat)) N3 N3.blk (fun _ => rfl) rfl (by first | decide | omega | (simp; done) | (simp; omega))
      replace R0 := H.ext
      replace hz := Nat.le_trans hz (Ext.size N3.ext)
      refine DW.sole rfl rfl rfl (OW.appendG (enc := encRat) (l := l2) (xs := ([r3] : List Rat)) Ts53 rfl (look_slice rfl (by first | rfl | (simp; done) | (simp; omega))) (H.own 3 rfl) (H.own 0 rfl).sl (fun _ => rfl) rfl rfl hg1 (by decide) fun A2 c2 w9 O1 M1 D1 => ?_)
      refine ⟨fun h => absurd h (by decide), M1.modx (XB.own_ 2 (by decide) rfl), ?_⟩
      replace H : Hp w w9 [.own (some ⟨b3, 0, none⟩) ((([r3] : List Rat)).length) 28 2 (List.map encRat (([r3] : List Rat))), .blk b2 46 [.int .i64 x1.from_, .int .i64 x1.to_, .int .i64 x1.rise, .int .i64 x1.weight], .own A15_0 c15_0 28 2 (List.map encRat r1), .own A2 c2 28 2 (List.map encRat ((l2 ++ ([r3] : List Rat))))] := H.mod 3 rfl M1 O1 D1
      replace R0 := H.ext
      replace hz := Nat.le_trans hz M1.size
      refine DW.thru rfl rfl rfl (fun _ EQ => RV.assign rfl) ?_
      refine DW.nil (hK9 _ _ ?_)
      obtain ⟨hg2, F⟩ := gd_some F
      refine CW.region ?_
      refine LW.pure rfl rfl (RV.add rfl rfl hg2) ?_
      refine LW.pure rfl rfl (RV.move rfl) ?_
      refine LW.nil ?_
      replace H := H.pick (L' := [.own A15_0 c15_0 28 2 (List.map encRat r1), .own A2 c2 28 2 (List.map encRat ((l2 ++ ([r3] : List Rat))))]) [2, 3] (by decide) rfl
      replace R0 := H.ext
      subst hrec1
      refine ⟨mk1, Nat.lt_succ_self _, _, ?_, (t12_1 + 1), ((l2 ++ ([r3] : List Rat))), A2, c2, F, rfl, H⟩
      exact ⟨rfl, (look_slice rfl (by first | rfl | (simp; done) | omega | (simp; omega))), (look_slice rfl (by first | rfl | (simp; done) | omega | (simp; omega))), rfl, rfl, rfl, trivial⟩
    ·
      replace F := ite_n hp1 F
      have hq1 := dec_f hp1
      refine CW.condF rfl hq1 ?_
      replace H := H.pick (L' := [.own Al2 cl2 28 2 (List.map encRat l2)]) [1] (by decide) rfl
      replace R0 := H.ext
      refine CW.exit (jK49 _ _ ⟨_, ?_, ⟨l2, Al2, cl2, F, rfl, H⟩⟩)
      exact ⟨rfl, (look_slice rfl (by first | rfl | (simp; done) | omega | (simp; omega))), trivial⟩
end Go.D1

set_option linter.unusedVariables false
set_option linter.unusedSimpArgs false
namespace Go.D1
open Go.Tb Go.Proofs Go.RowKit
theorem Tc38 : callable Try.prog 38 = true := by kernel_rfl
set_option maxRecDepth 20000 in
set_option maxHeartbeats 1000000 in
theorem level_Misfit_ok {a0 : Survey} {A_a0_readings : Option Addr} {c_a0_readings : Nat} {w : World} {res : Rat × Int} (h_a0_readings : Sl w A_a0_readings c_a0_readings 4 (a0.readings.map encReading)) (F : level_Misfit a0 = some res) : Calls Try.prog 38 #[.agg #[.int .i64 a0.points, .slice A_a0_readings a0.readings.length c_a0_readings]] w (Rt w (.tuple #[.agg #[.int .i64 res.1.num, .int .i64 res.1.den], .int .i64 res.2])) := by
  refine calls_of_cw (args := [.agg #[.int .i64 a0.points, .slice A_a0_readings a0.readings.length c_a0_readings]]) Try.func38 rfl rfl rfl rfl ?_
  have H := Hp.start w
  have R0 := H.ext
  unfold level_Misfit at F
  refine CW.seq fun K1 hK1 => ?_
  refine CW.region ?_
  refine LW.go rfl rfl (OW.box rfl fun b1 w1 N1 => ?_)
  replace H := H.new N1 N1.blk
  replace R0 := H.ext
  refine LW.go rfl rfl (OW.alloc Tz28 fun b2 w2 N2 => ?_)
  replace H := H.new N2 N2.blk
  replace R0 := H.ext
  refine LW.pure rfl rfl (RV.assign rfl) ?_
  refine LW.nil (hK1 _ _ ?_)
  refine CW.seq fun K2 hK2 => ?_
  refine CW.seq fun K3 hK3 => ?_
  obtain ⟨r5, hr5, F⟩ := bnd_some F
  refine CW.region ?_
  refine LW.pure rfl rfl (RV.loadA [.int .i64 a0.points, .slice A_a0_readings a0.readings.length c_a0_readings] Tk24 rfl (H.blk 1 rfl).cells rfl rfl) ?_
  refine LW.go rfl rfl (OW.call Tc25 rfl (level_Validate_ok (a0 := a0) (h_a0_readings.ext R0) hr5) ?_)
  rintro _ w3 ⟨rfl, E1⟩
  refine ⟨_, rfl, ?_⟩
  replace H := H.grow E1
  replace R0 := H.ext
  refine LW.pure rfl rfl (RV.assign rfl) ?_
  refine LW.nil (hK3 _ _ ?_)
  refine CW.seq fun K4 hK4 => ?_
  refine CW.region ?_
  refine LW.pure rfl rfl (RV.move rfl) ?_
  refine LW.pure rfl rfl (RV.nei rfl rfl) ?_
  refine LW.nil (hK4 _ _ ?_)
  by_cases hp1 : r5 = 0
  ·
    replace F := ite_y hp1 F
    have hq1 := dec_t hp1
    refine CW.condF rfl (not_f hq1) ?_
    refine CW.skip (hK2 _ _ ?_)
    refine CW.seq fun K5 hK5 => ?_
    obtain ⟨r3, hr3, F⟩ := bnd_some F
    refine CW.region ?_
    refine LW.pure rfl rfl (RV.loadA [.int .i64 a0.points, .slice A_a0_readings a0.readings.length c_a0_readings] Tk24 rfl (H.blk 1 rfl).cells rfl rfl) ?_
    refine LW.go rfl rfl (OW.call Tc76 rfl (level_residuals_ok (a0 := a0) (h_a0_readings.ext R0) hr3) ?_)
    rintro _ w4 ⟨A14_0, c14_0, rfl, E2⟩
    refine ⟨_, rfl, ?_⟩
    replace H : Hp w w4 [.own A14_0 c14_0 28 2 (List.map encRat r3), .blk b2 28 [.int .i64 0, .int .i64 0], .blk b1 24 [.int .i64 a0.points, .slice A_a0_readings a0.readings.length c_a0_readings]] := H.append E2
    replace R0 := H.ext
    refine LW.pure rfl rfl (RV.assign rfl) ?_
    refine LW.nil (hK5 _ _ ?_)
    refine CW.seq fun K6 hK6 => ?_
    refine CW.region ?_
    refine LW.pure rfl rfl (RV.assign rfl) ?_
    refine LW.nil (hK6 _ _ ?_)
    refine CW.seqJ (fun ρ wl1 => (∃ (t6_1 : Int), level_Misfit_k2 a0 r3 t6_1 = some res ∧ ρ = [(1, .pointer (some (⟨b1, 0, none⟩))), (2, .pointer (some (⟨b2, 0, none⟩))), (3, .int .i64 0), (5, .slice A14_0 r3.length c14_0), (6, .int .i64 t6_1)] ∧ Hp w wl1 [.own A14_0 c14_0 28 2 (List.map encRat r3), .blk b1 24 [.int .i64 a0.points, .slice A_a0_readings a0.readings.length c_a0_readings], .blk b2 28 [.int .i64 0, .int .i64 0]])) ?_ ?_
    ·
      rintro _ wl1 ⟨t6_1, F, rfl, H⟩
      have R0 := H.ext
      unfold level_Misfit_k2 at F
      refine CW.seq fun K7 hK7 => ?_
      refine CW.region ?_
      refine LW.pure rfl rfl (RV.assign rfl) ?_
      refine LW.nil (hK7 _ _ ?_)
      refine CW.seqJ (fun ρ wl2 => (∃ (t9_1 : Int), level_Misfit_k1 t6_1 t9_1 = some res ∧ ρ = [(2, .pointer (some (⟨b2, 0, none⟩))), (3, .int .i64 0), (6, .int .i64 t6_1), (9, .int .i64 t9_1)] ∧ Hp w wl2 [.blk b2 28 [.int .i64 0, .int .i64 0]])) ?_ ?_
      ·
        rintro _ wl2 ⟨t9_1, F, rfl, H⟩
        have R0 := H.ext
        unfold level_Misfit_k1 at F
        refine CW.seq fun K8 hK8 => ?_
        obtain ⟨r1, hr1, F⟩ := bnd_some F
        obtain ⟨r2, hr2, F⟩ := bnd_some F
        refine CW.region ?_
        refine LW.pure rfl rfl (RV.move rfl) ?_
        refine LW.pure rfl rfl (RV.move rfl) ?_
        refine LW.go rfl rfl (OW.call Tc80 rfl (level_ratio_ok (a0 := t9_1) (a1 := t6_1) hr1) ?_)
        rintro _ w5 ⟨rfl, E3⟩
        refine ⟨_, rfl, ?_⟩
        replace H := H.grow E3
        replace R0 := H.ext
        refine LW.pure rfl rfl (RV.move rfl) ?_
        refine LW.pure rfl rfl (RV.build (vs := [.int .i64 t6_1, .int .i64 1]) (cs := [.int .i64 t6_1, .int .i64 1]) rfl (fun _ => by kernel_rfl)) ?_
        refine LW.go rfl rfl (OW.call Tc79 rfl (level_div_ok (a0 := r1) (a1 := (⟨t6_1, 1⟩ : Rat)) hr2) ?_)
        rintro _ w6 ⟨rfl, E4⟩
        refine ⟨_, rfl, ?_⟩
        replace H := H.grow E4
        replace R0 := H.ext
        refine LW.go rfl rfl (OW.store Tk28 rfl rfl (H.blk 0 rfl) (off := 0) (vs := [.int .i64 r2.num, .int .i64 r2.den]) rfl rfl rfl rfl rfl fun w7 S1 => ?_)
        replace H : Hp w w7 [.blk b2 28 [.int .i64 r2.num, .int .i64 r2.den]] := H.stored 0 rfl S1
        replace R0 := H.ext
        refine LW.pure rfl rfl (RV.assign rfl) ?_
        refine LW.nil (hK8 _ _ ?_)
        refine CW.ret ?_
        obtain rfl := Option.some.inj F
        refine ⟨_, (ResOK.two ⟨_, rfl, run_loadVar_agg Tk28 (H.blk 0 rfl).cells (us := [.int .i64 r2.num, .int .i64 r2.den]) rfl rfl⟩ rfl), ?_⟩
        refine ⟨(by first | rfl | simp), R0⟩
      ·
        intro K9 hK9 jK107
        refine CW.seq fun K10 hK10 => ?_
        refine CW.region ?_
        refine LW.pure rfl rfl (RV.move rfl) ?_
        refine LW.pure rfl rfl (RV.len Ts53 rfl) ?_
        refine LW.pure rfl rfl (RV.move rfl) ?_
        refine LW.nil (hK10 _ _ ?_)
        refine CW.block ?_
        refine CW.loop (fun meas ρ wl3 => ∃ (t9_2 : Int) (t39_1 : Int), level_Misfit_L1 a0 r3 t6_1 meas t9_2 t39_1 = some res ∧ ρ = [(1, .pointer (some (⟨b1, 0, none⟩))), (2, .pointer (some (⟨b2, 0, none⟩))), (3, .int .i64 0), (6, .int .i64 t6_1), (9, .int .i64 t9_2), (37, .slice A14_0 r3.length c14_0), (38, .int .i64 ((r3.length : Int))), (39, .int .i64 t39_1)] ∧ Hp w wl3 [.own A14_0 c14_0 28 2 (List.map encRat r3), .blk b1 24 [.int .i64 a0.points, .slice A_a0_readings a0.readings.length c_a0_readings], .blk b2 28 [.int .i64 0, .int .i64 0]]) FU ⟨_, ?_, ((0 : Int)), ((0 : Int)), F, rfl, H⟩ ?_
        · exact ⟨rfl, rfl, rfl, rfl, rfl, (look_slice rfl (by first | rfl | (simp; done) | omega | (simp; omega))), rfl, rfl, trivial⟩
        rintro mk1 _ wl3 ⟨t9_2, t39_1, F, rfl, H⟩
        have R0 := H.ext
        replace F := level_Misfit_L1_s F
        obtain ⟨mk1, rfl, F⟩ := F
        generalize hrec1 : level_Misfit_L1 a0 r3 t6_1 mk1 = rec1 at F
        unfold level_Misfit_B1 at F
        refine CW.seq fun K11 hK11 => ?_
        refine CW.region ?_
        refine LW.pure rfl rfl (RV.lss rfl rfl) ?_
        refine LW.nil (hK11 _ _ ?_)
        refine CW.seq fun K12 hK12 => ?_
        by_cases hp2 : t39_1 < ((r3.length : Int))
        ·
          replace F := ite_y hp2 F
          have hq2 := dec_t hp2
          refine CW.condT rfl hq2 ?_
          refine CW.skip (hK12 _ _ ?_)
          refine CW.seq fun K13 hK13 => ?_
          refine CW.block ?_
          refine CW.seq fun K14 hK14 => ?_
          obtain ⟨x1, hbx1, hx1, F⟩ := ix_some F
          refine CW.region ?_
          refine LW.pure rfl rfl (RV.move rfl) ?_
          refine LW.pure rfl rfl (RV.indexAddr Ts53 rfl rfl hbx1 ((H.own 0 rfl).sl.addr_ hx1)) ?_
          refine LW.pure rfl rfl (RV.loadA [.int .i64 x1.num, .int .i64 x1.den] Tk28 rfl ((H.own 0 rfl).sl.at_ hx1) rfl rfl) ?_
          refine LW.go rfl rfl (OW.alloc Tz28 fun b3 w8 N3 => ?_)
          replace H := H.new N3 N3.blk
          replace R0 := H.ext
          refine LW.pure rfl rfl (RV.assign rfl) ?_
          refine LW.go rfl rfl (OW.store Tk28 rfl rfl (H.blk 0 rfl) (off := 0) (vs := [.int .i64 x1.num, .int .i64 x1.den]) rfl rfl rfl rfl rfl fun w9 S2 => ?_)
          replace H : Hp w w9 [.blk b3 28 [.int .i64 x1.num, .int .i64 x1.den], .own A14_0 c14_0 28 2 (List.map encRat r3), .blk b1 24 [.int .i64 a0.points, .slice A_a0_readings a0.readings.length c_a0_readings], .blk b2 28 [.int .i64 0, .int .i64 0]] := H.stored 0 rfl S2
          replace R0 := H.ext
          refine LW.nil (hK14 _ _ ?_)
          refine CW.seq fun K15 hK15 => ?_
          obtain ⟨hg1, F⟩ := gd_some F
          obtain ⟨hg2, F⟩ := gd_some F
          refine CW.draw [] (fun _ => True) (.cons 0 1 (.cons 1 1 (.cons 2 1 (.cons 3 1 (.cons 4 1 (.cons 5 1 (.cons 6 1 (.cons 7 1 .nil)))))))) mixed (by kernel_rfl) fun w10 E5 => ?_
          replace H := H.grow E5
          replace R0 := H.ext
          refine DW.fix rfl rfl rfl (fun _ EQ => RV.fieldAddr Tf28_0 rfl) ?_
          refine DW.fix rfl rfl rfl (fun _ EQ => RV.load1 Tk3 rfl (((H.grow EQ).blk 0 rfl).cells.off 0) rfl) ?_
          refine DW.fix rfl rfl rfl (fun _ EQ => RV.move rfl) ?_
          refine DW.fix rfl rfl rfl (fun _ EQ => RV.fieldAddr Tf28_1 rfl) ?_
          refine DW.fix rfl rfl rfl (fun _ EQ => RV.load1 Tk3 rfl (((H.grow EQ).blk 0 rfl).cells.off 1) rfl) ?_
          refine DW.fix rfl rfl rfl (fun _ EQ => RV.quo rfl rfl hg1) ?_
          refine DW.fix rfl rfl rfl (fun _ EQ => RV.mul rfl rfl hg2) ?_
          refine DW.fix rfl rfl rfl (fun _ EQ => RV.assign rfl) ?_
          refine DW.nil (hK15 _ _ ?_)
          obtain ⟨x2, hbx2, hx2, F⟩ := ix_some F
          obtain ⟨hg3, F⟩ := gd_some F
          obtain ⟨hg4, F⟩ := gd_some F
          obtain ⟨hg5, F⟩ := gd_some F
          refine CW.region ?_
          refine LW.pure rfl rfl (RV.move rfl) ?_
          refine LW.pure rfl rfl (RV.fieldAddr Tf24_1 rfl) ?_
          refine LW.pure rfl rfl (RV.load1 Tk22 rfl ((H.blk 2 rfl).cells.off 1) rfl) ?_
          refine LW.pure rfl rfl (RV.move rfl) ?_
          refine LW.pure rfl rfl (RV.indexAddr Ts22 rfl rfl hbx2 (h_a0_readings.addr_ hx2)) ?_
          refine LW.pure rfl rfl (RV.fieldAddr Tf46_3 rfl) ?_
          refine LW.pure rfl rfl (RV.load1 Tk3 rfl (((h_a0_readings.at_ hx2).ext R0).off 3) rfl) ?_
          refine LW.pure rfl rfl (RV.move rfl) ?_
          refine LW.pure rfl rfl (RV.mul rfl rfl hg3) ?_
          refine LW.pure rfl rfl (RV.move rfl) ?_
          refine LW.pure rfl rfl (RV.mul rfl rfl hg4) ?_
          refine LW.pure rfl rfl (RV.add rfl rfl hg5) ?_
          refine LW.pure rfl rfl (RV.assign rfl) ?_
          refine LW.nil (hK13 _ _ ?_)
          obtain ⟨hg6, F⟩ := gd_some F
          refine CW.region ?_
          refine LW.pure rfl rfl (RV.add rfl rfl hg6) ?_
          refine LW.pure rfl rfl (RV.move rfl) ?_
          refine LW.nil ?_
          replace H := H.pick (L' := [.own A14_0 c14_0 28 2 (List.map encRat r3), .blk b1 24 [.int .i64 a0.points, .slice A_a0_readings a0.readings.length c_a0_readings], .blk b2 28 [.int .i64 0, .int .i64 0]]) [1, 2, 3] (by decide) rfl
          replace R0 := H.ext
          subst hrec1
          refine ⟨mk1, Nat.lt_succ_self _, _, ?_, (t9_2 + ((x2.weight * (x1.num * (Int.tdiv t6_1 x1.den))) * (x1.num * (Int.tdiv t6_1 x1.den)))), (t39_1 + 1), F, rfl, H⟩
          exact ⟨rfl, rfl, rfl, rfl, rfl, (look_slice rfl (by first | rfl | (simp; done) | omega | (simp; omega))), rfl, rfl, trivial⟩
        ·
          replace F := ite_n hp2 F
          have hq2 := dec_f hp2
          refine CW.condF rfl hq2 ?_
          replace H := H.pick (L' := [.blk b2 28 [.int .i64 0, .int .i64 0]]) [2] (by decide) rfl
          replace R0 := H.ext
          refine CW.exit (jK107 _ _ ⟨_, ?_, ⟨t9_2, F, rfl, H⟩⟩)
          exact ⟨rfl, rfl, rfl, rfl, trivial⟩
    ·
      intro K16 hK16 jK124
      refine CW.seq fun K17 hK17 => ?_
      refine CW.region ?_
      refine LW.pure rfl rfl (RV.move rfl) ?_
      refine LW.pure rfl rfl (RV.len Ts53 rfl) ?_
      refine LW.pure rfl rfl (RV.move rfl) ?_
      refine LW.nil (hK17 _ _ ?_)
      refine CW.block ?_
      replace H := H.pick (L' := [.own A14_0 c14_0 28 2 (List.map encRat r3), .blk b1 24 [.int .i64 a0.points, .slice A_a0_readings a0.readings.length c_a0_readings], .blk b2 28 [.int .i64 0, .int .i64 0]]) [0, 2, 1] (by decide) rfl
      replace R0 := H.ext
      refine CW.loop (fun meas ρ wl4 => ∃ (t6_2 : Int) (t23_1 : Int), level_Misfit_L2 a0 r3 meas t6_2 t23_1 = some res ∧ ρ = [(1, .pointer (some (⟨b1, 0, none⟩))), (2, .pointer (some (⟨b2, 0, none⟩))), (3, .int .i64 0), (5, .slice A14_0 r3.length c14_0), (6, .int .i64 t6_2), (21, .slice A14_0 r3.length c14_0), (22, .int .i64 ((r3.length : Int))), (23, .int .i64 t23_1)] ∧ Hp w wl4 [.own A14_0 c14_0 28 2 (List.map encRat r3), .blk b1 24 [.int .i64 a0.points, .slice A_a0_readings a0.readings.length c_a0_readings], .blk b2 28 [.int .i64 0, .int .i64 0]]) FU ⟨_, ?_, ((1 : Int)), ((0 : Int)), F, rfl, H⟩ ?_
      · exact ⟨rfl, rfl, rfl, (look_slice rfl (by first | rfl | (simp; done) | omega | (simp; omega))), rfl, (look_slice rfl (by first | rfl | (simp; done) | omega | (simp; omega))), rfl, rfl, trivial⟩
      rintro mk2 _ wl4 ⟨t6_2, t23_1, F, rfl, H⟩
      have R0 := H.ext
      replace F := level_Misfit_L2_s F
      obtain ⟨mk2, rfl, F⟩ := F
      generalize hrec2 : level_Misfit_L2 a0 r3 mk2 = rec2 at F
      unfold level_Misfit_B2 at F
      refine CW.seq fun K18 hK18 => ?_
      refine CW.region ?_
      refine LW.pure rfl rfl (RV.lss rfl rfl) ?_
      refine LW.nil (hK18 _ _ ?_)
      refine CW.seq fun K19 hK19 => ?_
      by_cases hp3 : t23_1 < ((r3.length : Int))
      ·
        replace F := ite_y hp3 F
        have hq3 := dec_t hp3
        refine CW.condT rfl hq3 ?_
        refine CW.skip (hK19 _ _ ?_)
        refine CW.seq fun K20 hK20 => ?_
        refine CW.block ?_
        refine CW.seq fun K21 hK21 => ?_
        obtain ⟨x3, hbx3, hx3, F⟩ := ix_some F
        refine CW.region ?_
        refine LW.pure rfl rfl (RV.indexAddr Ts53 rfl rfl hbx3 ((H.own 0 rfl).sl.addr_ hx3)) ?_
        refine LW.pure rfl rfl (RV.loadA [.int .i64 x3.num, .int .i64 x3.den] Tk28 rfl ((H.own 0 rfl).sl.at_ hx3) rfl rfl) ?_
        refine LW.go rfl rfl (OW.alloc Tz28 fun b4 w11 N4 => ?_)
        replace H := H.new N4 N4.blk
        replace R0 := H.ext
        refine LW.go rfl rfl (OW.store Tk28 rfl rfl (H.blk 0 rfl) (off := 0) (vs := [.int .i64 x3.num, .int .i64 x3.den]) rfl rfl rfl rfl rfl fun w12 S3 => ?_)
        replace H : Hp w w12 [.blk b4 28 [.int .i64 x3.num, .int .i64 x3.den], .own A14_0 c14_0 28 2 (List.map encRat r3), .blk b1 24 [.int .i64 a0.points, .slice A_a0_readings a0.readings.length c_a0_readings], .blk b2 28 [.int .i64 0, .int .i64 0]] := H.stored 0 rfl S3
        replace R0 := H.ext
        refine LW.nil (hK21 _ _ ?_)
        obtain ⟨r4, hr4, F⟩ := bnd_some F
        obtain ⟨hg7, F⟩ := gd_some F
        obtain ⟨hg8, F⟩ := gd_some F
        refine CW.draw [] (fun _ => True) (.cons 0 1 (.cons 1 1 (.cons 2 1 (.cons 3 1 (.cons 6 1 (.cons 7 1 (.cons 4 0 (.cons 5 1 (.cons 8 1 (.cons 9 1 .nil)))))))))) mixed (by kernel_rfl) fun w13 E6 => ?_
        replace H := H.grow E6
        replace R0 := H.ext
        refine DW.fix rfl rfl rfl (fun _ EQ => RV.move rfl) ?_
        refine DW.fix rfl rfl rfl (fun _ EQ => RV.move rfl) ?_
        refine DW.fix rfl rfl rfl (fun _ EQ => RV.fieldAddr Tf28_1 rfl) ?_
        refine DW.fix rfl rfl rfl (fun _ EQ => RV.load1 Tk3 rfl (((H.grow EQ).blk 0 rfl).cells.off 1) rfl) ?_
        refine DW.fix rfl rfl rfl (fun _ EQ => RV.fieldAddr Tf28_1 rfl) ?_
        refine DW.fix rfl rfl rfl (fun _ EQ => RV.load1 Tk3 rfl (((H.grow EQ).blk 0 rfl).cells.off 1) rfl) ?_
        refine DW.sole rfl rfl rfl (OW.call Tc78 rfl (level_gcd_ok (a0 := t6_2) (a1 := x3.den) hr4) ?_)
        rintro _ w14 ⟨rfl, E7⟩
        refine ⟨_, rfl, fun _ => E7, ModX.ext E7, ?_⟩
        replace H := H.grow E7
        replace R0 := H.ext
        refine DW.fix rfl rfl rfl (fun _ EQ => RV.quo rfl rfl hg7) ?_
        refine DW.fix rfl rfl rfl (fun _ EQ => RV.mul rfl rfl hg8) ?_
        refine DW.fix rfl rfl rfl (fun _ EQ => RV.assign rfl) ?_
        refine DW.nil (hK20 _ _ ?_)
        obtain ⟨hg9, F⟩ := gd_some F
        refine CW.region ?_
        refine LW.pure rfl rfl (RV.add rfl rfl hg9) ?_
        refine LW.pure rfl rfl (RV.move rfl) ?_
        refine LW.nil ?_
        replace H := H.pick (L' := [.own A14_0 c14_0 28 2 (List.map encRat r3), .blk b1 24 [.int .i64 a0.points, .slice A_a0_readings a0.readings.length c_a0_readings], .blk b2 28 [.int .i64 0, .int .i64 0]]) [1, 2, 3] (by decide) rfl
        replace R0 := H.ext
        subst hrec2
        refine ⟨mk2, Nat.lt_succ_self _, _, ?_, ((Int.tdiv t6_2 r4) * x3.den), (t23_1 + 1), F, rfl, H⟩
        exact ⟨rfl, rfl, rfl, (look_slice rfl (by first | rfl | (simp; done) | omega | (simp; omega))), rfl, (look_slice rfl (by first | rfl | (simp; done) | omega | (simp; omega))), rfl, rfl, trivial⟩
      ·
        replace F := ite_n hp3 F
        have hq3 := dec_f hp3
        refine CW.condF rfl hq3 ?_
        refine CW.exit (jK124 _ _ ⟨_, ?_, ⟨t6_2, F, rfl, H⟩⟩)
        exact ⟨rfl, rfl, rfl, (look_slice rfl (by first | rfl | (simp; done) | omega | (simp; omega))), rfl, trivial⟩
  ·
    replace F := ite_n hp1 F
    have hq1 := dec_f hp1
    refine CW.condT rfl (not_t hq1) ?_
    refine CW.seq fun K22 hK22 => ?_
    refine CW.region ?_
    refine LW.pure rfl rfl (RV.build (vs := []) (cs := [.int .i64 0, .int .i64 0]) rfl (fun _ => by kernel_rfl)) ?_
    refine LW.pure rfl rfl (RV.move rfl) ?_
    refine LW.go rfl rfl (OW.store Tk28 rfl rfl (H.blk 0 rfl) (off := 0) (vs := [.int .i64 0, .int .i64 0]) rfl rfl rfl rfl rfl fun w15 S4 => ?_)
    replace H : Hp w w15 [.blk b2 28 [.int .i64 0, .int .i64 0], .blk b1 24 [.int .i64 a0.points, .slice A_a0_readings a0.readings.length c_a0_readings]] := H.stored 0 rfl S4
    replace R0 := H.ext
    refine LW.pure rfl rfl (RV.assign rfl) ?_
    refine LW.nil (hK22 _ _ ?_)
    refine CW.ret ?_
    obtain rfl := Option.some.inj F
    refine ⟨_, (ResOK.two ⟨_, rfl, run_loadVar_agg Tk28 (H.blk 0 rfl).cells (us := [.int .i64 0, .int .i64 0]) rfl rfl⟩ rfl), ?_⟩
    refine ⟨(by first | rfl | simp), R0⟩
end Go.D1

set_option linter.unusedVariables false
set_option linter.unusedSimpArgs false
namespace Go.D1
open Go.Tb Go.Proofs Go.RowKit
theorem Tc72 : callable Try.prog 72 = true := by kernel_rfl
set_option maxRecDepth 20000 in
set_option maxHeartbeats 1000000 in
theorem level_reading_ok {a0 : Survey} {a1 : Int} {A_a0_readings : Option Addr} {c_a0_readings : Nat} {w : World} {res : Int} (h_a0_readings : Sl w A_a0_readings c_a0_readings 4 (a0.readings.map encReading)) (F : level_reading a0 a1 = some res) : Calls Try.prog 72 #[.agg #[.int .i64 a0.points, .slice A_a0_readings a0.readings.length c_a0_readings], .int .i64 a1] w (Rt w (.int .i64 res)) := by
  refine calls_of_cw (args := [.agg #[.int .i64 a0.points, .slice A_a0_readings a0.readings.length c_a0_readings], .int .i64 a1]) Try.func72 rfl rfl rfl rfl ?_
  have H := Hp.start w
  have R0 := H.ext
  unfold level_reading at F
  refine CW.seq fun K1 hK1 => ?_
  refine CW.region ?_
  refine LW.go rfl rfl (OW.box rfl fun b1 w1 N1 => ?_)
  replace H := H.new N1 N1.blk
  replace R0 := H.ext
  refine LW.pure rfl rfl (RV.assign rfl) ?_
  refine LW.nil (hK1 _ _ ?_)
  refine CW.seq fun K2 hK2 => ?_
  refine CW.seq fun K3 hK3 => ?_
  obtain ⟨r1, hr1, F⟩ := bnd_some F
  refine CW.region ?_
  refine LW.pure rfl rfl (RV.loadA [.int .i64 a0.points, .slice A_a0_readings a0.readings.length c_a0_readings] Tk24 rfl (H.blk 0 rfl).cells rfl rfl) ?_
  refine LW.go rfl rfl (OW.call Tc25 rfl (level_Validate_ok (a0 := a0) (h_a0_readings.ext R0) hr1) ?_)
  rintro _ w2 ⟨rfl, E1⟩
  refine ⟨_, rfl, ?_⟩
  replace H := H.grow E1
  replace R0 := H.ext
  refine LW.pure rfl rfl (RV.assign rfl) ?_
  refine LW.nil (hK3 _ _ ?_)
  refine CW.seq fun K4 hK4 => ?_
  refine CW.region ?_
  refine LW.pure rfl rfl (RV.move rfl) ?_
  refine LW.pure rfl rfl (RV.nei rfl rfl) ?_
  refine LW.nil (hK4 _ _ ?_)
  by_cases hp1 : r1 = 0
  ·
    replace F := ite_y hp1 F
    have hq1 := dec_t hp1
    refine CW.condF rfl (not_f hq1) ?_
    refine CW.skip (hK2 _ _ ?_)
    refine CW.seq fun K5 hK5 => ?_
    refine CW.seq fun K6 hK6 => ?_
    obtain ⟨hg1, F⟩ := gd_some F
    obtain ⟨r2, hr2, F⟩ := bnd_some F
    refine CW.region ?_
    refine LW.pure rfl rfl (RV.move rfl) ?_
    refine LW.pure rfl rfl (RV.fieldAddr Tf24_1 rfl) ?_
    refine LW.pure rfl rfl (RV.load1 Tk22 rfl ((H.blk 0 rfl).cells.off 1) rfl) ?_
    refine LW.pure rfl rfl (RV.len Ts22 rfl) ?_
    refine LW.pure rfl rfl (RV.sub rfl rfl hg1) ?_
    refine LW.go rfl rfl (OW.call Tc61 rfl (level_within_ok (a0 := a1) (a1 := (0 : Int)) (a2 := ((a0.readings.length : Int)) - 1) hr2) ?_)
    rintro _ w3 ⟨rfl, E2⟩
    refine ⟨_, rfl, ?_⟩
    replace H := H.grow E2
    replace R0 := H.ext
    refine LW.pure rfl rfl (RV.not rfl) ?_
    refine LW.nil (hK6 _ _ ?_)
    by_cases hp2 : r2 = true
    ·
      replace F := ite_y hp2 F
      have hq2 : r2 = true := hp2
      refine CW.condF rfl (not_f hq2) ?_
      refine CW.skip (hK5 _ _ ?_)
      refine CW.seq fun K7 hK7 => ?_
      refine CW.region ?_
      refine LW.pure rfl rfl (RV.assign rfl) ?_
      refine LW.nil (hK7 _ _ ?_)
      refine CW.ret ?_
      obtain rfl := Option.some.inj F
      refine ⟨_, (ResOK.one rfl), ?_⟩
      refine ⟨(by first | rfl | simp), R0⟩
    ·
      replace F := ite_n hp2 F
      have hq2 : r2 = false := raw_f hp2
      refine CW.condT rfl (not_t hq2) ?_
      refine CW.seq fun K8 hK8 => ?_
      refine CW.region ?_
      refine LW.pure rfl rfl (RV.assign rfl) ?_
      refine LW.nil (hK8 _ _ ?_)
      refine CW.ret ?_
      obtain rfl := Option.some.inj F
      refine ⟨_, (ResOK.one rfl), ?_⟩
      refine ⟨(by first | rfl | simp), R0⟩
  ·
    replace F := ite_n hp1 F
    have hq1 := dec_f hp1
    refine CW.condT rfl (not_t hq1) ?_
    refine CW.seq fun K9 hK9 => ?_
    refine CW.region ?_
    refine LW.pure rfl rfl (RV.move rfl) ?_
    refine LW.pure rfl rfl (RV.assign rfl) ?_
    refine LW.nil (hK9 _ _ ?_)
    refine CW.ret ?_
    obtain rfl := Option.some.inj F
    refine ⟨_, (ResOK.one rfl), ?_⟩
    refine ⟨(by first | rfl | simp), R0⟩
set_option maxRecDepth 20000 in
set_option maxHeartbeats 1000000 in
theorem level_Share_ok {a0 : Survey} {a1 : Int} {A_a0_readings : Option Addr} {c_a0_readings : Nat} {w : World} {res : Rat × Int} (h_a0_readings : Sl w A_a0_readings c_a0_readings 4 (a0.readings.map encReading)) (F : level_Share a0 a1 = some res) : Calls Try.prog 32 #[.agg #[.int .i64 a0.points, .slice A_a0_readings a0.readings.length c_a0_readings], .int .i64 a1] w (Rt w (.tuple #[.agg #[.int .i64 res.1.num, .int .i64 res.1.den], .int .i64 res.2])) := by
  refine calls_of_cw (args := [.agg #[.int .i64 a0.points, .slice A_a0_readings a0.readings.length c_a0_readings], .int .i64 a1]) Try.func32 rfl rfl rfl rfl ?_
  have H := Hp.start w
  have R0 := H.ext
  unfold level_Share at F
  refine CW.seq fun K1 hK1 => ?_
  refine CW.region ?_
  refine LW.go rfl rfl (OW.box rfl fun b1 w1 N1 => ?_)
  replace H := H.new N1 N1.blk
  replace R0 := H.ext
  refine LW.go rfl rfl (OW.alloc Tz28 fun b2 w2 N2 => ?_)
  replace H := H.new N2 N2.blk
  replace R0 := H.ext
  refine LW.pure rfl rfl (RV.assign rfl) ?_
  refine LW.nil (hK1 _ _ ?_)
  refine CW.seq fun K2 hK2 => ?_
  refine CW.seq fun K3 hK3 => ?_
  obtain ⟨r1, hr1, F⟩ := bnd_some F
  refine CW.region ?_
  refine LW.pure rfl rfl (RV.loadA [.int .i64 a0.points, .slice A_a0_readings a0.readings.length c_a0_readings] Tk24 rfl (H.blk 1 rfl).cells rfl rfl) ?_
  refine LW.pure rfl rfl (RV.move rfl) ?_
  refine LW.go rfl rfl (OW.call Tc72 rfl (level_reading_ok (a0 := a0) (a1 := a1) (h_a0_readings.ext R0) hr1) ?_)
  rintro _ w3 ⟨rfl, E1⟩
  refine ⟨_, rfl, ?_⟩
  replace H := H.grow E1
  replace R0 := H.ext
  refine LW.pure rfl rfl (RV.assign rfl) ?_
  refine LW.nil (hK3 _ _ ?_)
  refine CW.seq fun K4 hK4 => ?_
  refine CW.region ?_
  refine LW.pure rfl rfl (RV.move rfl) ?_
  refine LW.pure rfl rfl (RV.nei rfl rfl) ?_
  refine LW.nil (hK4 _ _ ?_)
  by_cases hp1 : r1 = 0
  ·
    replace F := ite_y hp1 F
    have hq1 := dec_t hp1
    refine CW.condF rfl (not_f hq1) ?_
    refine CW.skip (hK2 _ _ ?_)
    refine CW.seq fun K5 hK5 => ?_
    obtain ⟨x1, hbx1, hx1, F⟩ := ix_some F
    refine CW.region ?_
    refine LW.pure rfl rfl (RV.fieldAddr Tf24_1 rfl) ?_
    refine LW.pure rfl rfl (RV.load1 Tk22 rfl ((H.blk 1 rfl).cells.off 1) rfl) ?_
    refine LW.pure rfl rfl (RV.move rfl) ?_
    refine LW.pure rfl rfl (RV.indexAddr Ts22 rfl rfl hbx1 (h_a0_readings.addr_ hx1)) ?_
    refine LW.pure rfl rfl (RV.loadA [.int .i64 x1.from_, .int .i64 x1.to_, .int .i64 x1.rise, .int .i64 x1.weight] Tk46 rfl ((h_a0_readings.at_ hx1).ext R0) rfl rfl) ?_
    refine LW.go rfl rfl (OW.alloc Tz46 fun b3 w4 N3 => ?_)
    replace H := H.new N3 N3.blk
    replace R0 := H.ext
    refine LW.go rfl rfl (OW.store Tk46 rfl rfl (H.blk 0 rfl) (off := 0) (vs := [.int .i64 x1.from_, .int .i64 x1.to_, .int .i64 x1.rise, .int .i64 x1.weight]) rfl rfl rfl rfl rfl fun w5 S1 => ?_)
    replace H : Hp w w5 [.blk b3 46 [.int .i64 x1.from_, .int .i64 x1.to_, .int .i64 x1.rise, .int .i64 x1.weight], .blk b2 28 [.int .i64 0, .int .i64 0], .blk b1 24 [.int .i64 a0.points, .slice A_a0_readings a0.readings.length c_a0_readings]] := H.stored 0 rfl S1
    replace R0 := H.ext
    refine LW.nil (hK5 _ _ ?_)
    refine CW.seq fun K6 hK6 => ?_
    obtain ⟨r2, hr2, F⟩ := bnd_some F
    obtain ⟨r3, hr3, F⟩ := bnd_some F
    refine CW.draw [10] (fun _ => True) (.cons 0 1 (.cons 1 1 (.cons 2 1 (.cons 3 1 (.cons 4 1 (.cons 5 1 (.cons 6 1 (.cons 7 1 (.cons 8 0 (.cons 9 0 (.cons 10 0 (.cons 11 2 .nil)))))))))))) mixed (by kernel_rfl) fun w6 E2 => ?_
    replace H := H.grow E2
    replace R0 := H.ext
    refine DW.fix rfl rfl rfl (fun _ EQ => RV.fieldAddr Tf46_3 rfl) ?_
    refine DW.fix rfl rfl rfl (fun _ EQ => RV.load1 Tk3 rfl (((H.grow EQ).blk 0 rfl).cells.off 3) rfl) ?_
    refine DW.fix rfl rfl rfl (fun _ EQ => RV.build (vs := [.int .i64 x1.weight, .int .i64 1]) (cs := [.int .i64 x1.weight, .int .i64 1]) rfl (fun _ => by kernel_rfl)) ?_
    refine DW.fix rfl rfl rfl (fun _ EQ => RV.loadA [.int .i64 a0.points, .slice A_a0_readings a0.readings.length c_a0_readings] Tk24 rfl ((H.grow EQ).blk 2 rfl).cells rfl rfl) ?_
    refine DW.fix rfl rfl rfl (fun _ EQ => RV.fieldAddr Tf46_0 rfl) ?_
    refine DW.fix rfl rfl rfl (fun _ EQ => RV.load1 Tk3 rfl (((H.grow EQ).blk 0 rfl).cells.off 0) rfl) ?_
    refine DW.fix rfl rfl rfl (fun _ EQ => RV.fieldAddr Tf46_1 rfl) ?_
    refine DW.fix rfl rfl rfl (fun _ EQ => RV.load1 Tk3 rfl (((H.grow EQ).blk 0 rfl).cells.off 1) rfl) ?_
    refine DW.sole rfl rfl rfl (OW.call Tc63 rfl (level_resist_ok (a0 := a0) (a1 := x1.from_) (a2 := x1.to_) (h_a0_readings.ext R0) hr2) ?_)
    rintro _ w7 ⟨rfl, E3⟩
    refine ⟨_, rfl, fun _ => E3, ModX.ext E3, ?_⟩
    replace H := H.grow E3
    replace R0 := H.ext
    refine DW.sole rfl rfl rfl (OW.call Tc73 rfl (level_mul_ok (a0 := (⟨x1.weight, 1⟩ : Rat)) (a1 := r2) hr3) ?_)
    rintro _ w8 ⟨rfl, E4⟩
    refine ⟨_, rfl, fun _ => E4, ModX.ext E4, ?_⟩
    replace H := H.grow E4
    replace R0 := H.ext
    refine DW.sole rfl rfl rfl (OW.store Tk28 rfl rfl (H.blk 1 rfl) (off := 0) (vs := [.int .i64 r3.num, .int .i64 r3.den]) rfl rfl rfl rfl rfl fun w9 S2 => ?_)
    refine ⟨fun h => absurd h (by decide), S2.modx trivial, ?_⟩
    replace H : Hp w w9 [.blk b3 46 [.int .i64 x1.from_, .int .i64 x1.to_, .int .i64 x1.rise, .int .i64 x1.weight], .blk b2 28 [.int .i64 r3.num, .int .i64 r3.den], .blk b1 24 [.int .i64 a0.points, .slice A_a0_readings a0.readings.length c_a0_readings]] := H.stored 1 rfl S2
    replace R0 := H.ext
    refine DW.thru rfl rfl rfl (fun _ EQ => RV.assign rfl) ?_
    refine DW.nil (hK6 _ _ ?_)
    refine CW.ret ?_
    obtain rfl := Option.some.inj F
    refine ⟨_, (ResOK.two ⟨_, rfl, run_loadVar_agg Tk28 (H.blk 1 rfl).cells (us := [.int .i64 r3.num, .int .i64 r3.den]) rfl rfl⟩ rfl), ?_⟩
    refine ⟨(by first | rfl | simp), R0⟩
  ·
    replace F := ite_n hp1 F
    have hq1 := dec_f hp1
    refine CW.condT rfl (not_t hq1) ?_
    refine CW.seq fun K7 hK7 => ?_
    refine CW.region ?_
    refine LW.pure rfl rfl (RV.build (vs := []) (cs := [.int .i64 0, .int .i64 0]) rfl (fun _ => by kernel_rfl)) ?_
    refine LW.pure rfl rfl (RV.move rfl) ?_
    refine LW.go rfl rfl (OW.store Tk28 rfl rfl (H.blk 0 rfl) (off := 0) (vs := [.int .i64 0, .int .i64 0]) rfl rfl rfl rfl rfl fun w10 S3 => ?_)
    replace H : Hp w w10 [.blk b2 28 [.int .i64 0, .int .i64 0], .blk b1 24 [.int .i64 a0.points, .slice A_a0_readings a0.readings.length c_a0_readings]] := H.stored 0 rfl S3
    replace R0 := H.ext
    refine LW.pure rfl rfl (RV.assign rfl) ?_
    refine LW.nil (hK7 _ _ ?_)
    refine CW.ret ?_
    obtain rfl := Option.some.inj F
    refine ⟨_, (ResOK.two ⟨_, rfl, run_loadVar_agg Tk28 (H.blk 0 rfl).cells (us := [.int .i64 0, .int .i64 0]) rfl rfl⟩ rfl), ?_⟩
    refine ⟨(by first | rfl | simp), R0⟩
end Go.D1

set_option linter.unusedVariables false
set_option linter.unusedSimpArgs false
namespace Go.D1
open Go.Tb Go.Proofs Go.RowKit
theorem Tc32 : callable Try.prog 32 = true := by kernel_rfl
end Go.D1
