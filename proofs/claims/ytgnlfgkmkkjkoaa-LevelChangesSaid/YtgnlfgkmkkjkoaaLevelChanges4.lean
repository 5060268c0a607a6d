/- Lemmas and walks that the proof of this claim uses: D1m22, D1m23, D1m24, Tb22, D1p1, D1p2, D1p3, D1p4, D1p5, D1p7. -/
import Derived.Test.YtgnlfgkmkkjkoaaLevelChanges3
set_option linter.unusedVariables false
set_option linter.unusedSimpArgs false
namespace Go.D1
open Go.Tb Go.Proofs Go.RowKit
theorem Tc107 : callable Try.prog 107 = true := by kernel_rfl
theorem Tc72 : callable Try.prog 72 = true := by kernel_rfl
theorem Tc84 : callable Try.prog 84 = true := by kernel_rfl
theorem Tc85 : callable Try.prog 85 = true := by kernel_rfl
set_option maxRecDepth 20000 in
set_option maxHeartbeats 1000000 in
theorem level_reading_ok {a0 : Survey} {a1 : Int} {A_a0_readings : Option Addr} {c_a0_readings : Nat} {w : World} {res : Int} (h_a0_readings : Sl w A_a0_readings c_a0_readings 4 (a0.readings.map encReading)) (F : level_reading a0 a1 = some res) : Calls Try.prog 72 #[.agg #[.int .i64 a0.points, .slice A_a0_readings a0.readings.length c_a0_readings], .int .i64 a1] w (Rt w (.int .i64 res)) := by
  refine calls_of_cw (args := [.agg #[.int .i64 a0.points, .slice A_a0_readings a0.readings.length c_a0_readings], .int .i64 a1]) Try.func72 rfl rfl rfl rfl ?_
  have H := Hp.start w
  have R0 := H.ext
  unfold level_reading at F
  refine CW.seq fun K1 hK1 => ?_
  refine CW.region ?_
  refine LW.go rfl rfl (OW.box rfl fun b1 w1 N1 => ?_)
  replace H := H.new N1 N1.blk
  replace R0 := H.ext
  refine LW.pure rfl rfl (RV.assign rfl) ?_
  refine LW.nil (hK1 _ _ ?_)
  refine CW.seq fun K2 hK2 => ?_
  refine CW.seq fun K3 hK3 => ?_
  obtain ⟨r1, hr1, F⟩ := bnd_some F
  refine CW.region ?_
  refine LW.pure rfl rfl (RV.loadA [.int .i64 a0.points, .slice A_a0_readings a0.readings.length c_a0_readings] Tk24 rfl (H.blk 0 rfl).cells rfl rfl) ?_
  refine LW.go rfl rfl (OW.call Tc25 rfl (level_Validate_ok (a0 := a0) (h_a0_readings.ext R0) hr1) ?_)
  rintro _ w2 ⟨rfl, E1⟩
  refine ⟨_, rfl, ?_⟩
  replace H := H.grow E1
  replace R0 := H.ext
  refine LW.pure rfl rfl (RV.assign rfl) ?_
  refine LW.nil (hK3 _ _ ?_)
  refine CW.seq fun K4 hK4 => ?_
  refine CW.region ?_
  refine LW.pure rfl rfl (RV.move rfl) ?_
  refine LW.pure rfl rfl (RV.nei rfl rfl) ?_
  refine LW.nil (hK4 _ _ ?_)
  by_cases hp1 : r1 = 0
  ·
    replace F := ite_y hp1 F
    have hq1 := dec_t hp1
    refine CW.condF rfl (not_f hq1) ?_
    refine CW.skip (hK2 _ _ ?_)
    refine CW.seq fun K5 hK5 => ?_
    refine CW.seq fun K6 hK6 => ?_
    obtain ⟨hg1, F⟩ := gd_some F
    obtain ⟨r2, hr2, F⟩ := bnd_some F
    refine CW.region ?_
    refine LW.pure rfl rfl (RV.move rfl) ?_
    refine LW.pure rfl rfl (RV.fieldAddr Tf24_1 rfl) ?_
    refine LW.pure rfl rfl (RV.load1 Tk22 rfl ((H.blk 0 rfl).cells.off 1) rfl) ?_
    refine LW.pure rfl rfl (RV.len Ts22 rfl) ?_
    refine LW.pure rfl rfl (RV.sub rfl rfl hg1) ?_
    refine LW.go rfl rfl (OW.call Tc61 rfl (level_within_ok (a0 := a1) (a1 := (0 : Int)) (a2 := ((a0.readings.length : Int)) - 1) hr2) ?_)
    rintro _ w3 ⟨rfl, E2⟩
    refine ⟨_, rfl, ?_⟩
    replace H := H.grow E2
    replace R0 := H.ext
    refine LW.pure rfl rfl (RV.not rfl) ?_
    refine LW.nil (hK6 _ _ ?_)
    by_cases hp2 : r2 = true
    ·
      replace F := ite_y hp2 F
      have hq2 : r2 = true := hp2
      refine CW.condF rfl (not_f hq2) ?_
      refine CW.skip (hK5 _ _ ?_)
      refine CW.seq fun K7 hK7 => ?_
      refine CW.region ?_
      refine LW.pure rfl rfl (RV.assign rfl) ?_
      refine LW.nil (hK7 _ _ ?_)
      refine CW.ret ?_
      obtain rfl := Option.some.inj F
      refine ⟨_, (ResOK.one rfl), ?_⟩
      refine ⟨(by first | rfl | simp), R0⟩
    ·
      replace F := ite_n hp2 F
      have hq2 : r2 = false := raw_f hp2
      refine CW.condT rfl (not_t hq2) ?_
      refine CW.seq fun K8 hK8 => ?_
      refine CW.region ?_
      refine LW.pure rfl rfl (RV.assign rfl) ?_
      refine LW.nil (hK8 _ _ ?_)
      refine CW.ret ?_
      obtain rfl := Option.some.inj F
      refine ⟨_, (ResOK.one rfl), ?_⟩
      refine ⟨(by first | rfl | simp), R0⟩
  ·
    replace F := ite_n hp1 F
    have hq1 := dec_f hp1
    refine CW.condT rfl (not_t hq1) ?_
    refine CW.seq fun K9 hK9 => ?_
    refine CW.region ?_
    refine LW.pure rfl rfl (RV.move rfl) ?_
    refine LW.pure rfl rfl (RV.assign rfl) ?_
    refine LW.nil (hK9 _ _ ?_)
    refine CW.ret ?_
    obtain rfl := Option.some.inj F
    refine ⟨_, (ResOK.one rfl), ?_⟩
    refine ⟨(by first | rfl | simp), R0⟩
set_option maxRecDepth 20000 in
set_option maxHeartbeats 1000000 in
theorem ref01_numbered_ok {a0 : Survey} {a1 : Int} {A_a0_readings : Option Addr} {c_a0_readings : Nat} {w : World} {res : Int} (h_a0_readings : Sl w A_a0_readings c_a0_readings 4 (a0.readings.map encReading)) (F : ref01_numbered a0 a1 = some res) : Calls Try.prog 84 #[.agg #[.int .i64 a0.points, .slice A_a0_readings a0.readings.length c_a0_readings], .int .i64 a1] w (Rt w (.int .i64 res)) := by
  refine calls_of_cw (args := [.agg #[.int .i64 a0.points, .slice A_a0_readings a0.readings.length c_a0_readings], .int .i64 a1]) Try.func84 rfl rfl rfl rfl ?_
  have H := Hp.start w
  have R0 := H.ext
  unfold ref01_numbered at F
  refine CW.seq fun K1 hK1 => ?_
  refine CW.region ?_
  refine LW.go rfl rfl (OW.box rfl fun b1 w1 N1 => ?_)
  replace H := H.new N1 N1.blk
  replace R0 := H.ext
  refine LW.pure rfl rfl (RV.assign rfl) ?_
  refine LW.nil (hK1 _ _ ?_)
  refine CW.seq fun K2 hK2 => ?_
  refine CW.seq fun K3 hK3 => ?_
  obtain ⟨r1, hr1, F⟩ := bnd_some F
  refine CW.region ?_
  refine LW.pure rfl rfl (RV.loadA [.int .i64 a0.points, .slice A_a0_readings a0.readings.length c_a0_readings] Tk24 rfl (H.blk 0 rfl).cells rfl rfl) ?_
  refine LW.go rfl rfl (OW.call Tc26 rfl (ref01_Validate_ok (a0 := a0) (h_a0_readings.ext R0) hr1) ?_)
  rintro _ w2 ⟨rfl, E1⟩
  refine ⟨_, rfl, ?_⟩
  replace H := H.grow E1
  replace R0 := H.ext
  refine LW.pure rfl rfl (RV.assign rfl) ?_
  refine LW.nil (hK3 _ _ ?_)
  refine CW.seq fun K4 hK4 => ?_
  refine CW.region ?_
  refine LW.pure rfl rfl (RV.move rfl) ?_
  refine LW.pure rfl rfl (RV.nei rfl rfl) ?_
  refine LW.nil (hK4 _ _ ?_)
  by_cases hp1 : r1 = 0
  ·
    replace F := ite_y hp1 F
    have hq1 := dec_t hp1
    refine CW.condF rfl (not_f hq1) ?_
    refine CW.skip (hK2 _ _ ?_)
    refine CW.seq fun K5 hK5 => ?_
    refine CW.seq fun K6 hK6 => ?_
    obtain ⟨hg1, F⟩ := gd_some F
    obtain ⟨r2, hr2, F⟩ := bnd_some F
    refine CW.region ?_
    refine LW.pure rfl rfl (RV.move rfl) ?_
    refine LW.pure rfl rfl (RV.fieldAddr Tf24_1 rfl) ?_
    refine LW.pure rfl rfl (RV.load1 Tk22 rfl ((H.blk 0 rfl).cells.off 1) rfl) ?_
    refine LW.pure rfl rfl (RV.len Ts22 rfl) ?_
    refine LW.pure rfl rfl (RV.sub rfl rfl hg1) ?_
    refine LW.go rfl rfl (OW.call Tc69 rfl (ref01_within_ok (a0 := a1) (a1 := (0 : Int)) (a2 := ((a0.readings.length : Int)) - 1) hr2) ?_)
    rintro _ w3 ⟨rfl, E2⟩
    refine ⟨_, rfl, ?_⟩
    replace H := H.grow E2
    replace R0 := H.ext
    refine LW.pure rfl rfl (RV.not rfl) ?_
    refine LW.nil (hK6 _ _ ?_)
    by_cases hp2 : r2 = true
    ·
      replace F := ite_y hp2 F
      have hq2 : r2 = true := hp2
      refine CW.condF rfl (not_f hq2) ?_
      refine CW.skip (hK5 _ _ ?_)
      refine CW.seq fun K7 hK7 => ?_
      refine CW.region ?_
      refine LW.pure rfl rfl (RV.assign rfl) ?_
      refine LW.nil (hK7 _ _ ?_)
      refine CW.ret ?_
      obtain rfl := Option.some.inj F
      refine ⟨_, (ResOK.one rfl), ?_⟩
      refine ⟨(by first | rfl | simp), R0⟩
    ·
      replace F := ite_n hp2 F
      have hq2 : r2 = false := raw_f hp2
      refine CW.condT rfl (not_t hq2) ?_
      refine CW.seq fun K8 hK8 => ?_
      refine CW.region ?_
      refine LW.pure rfl rfl (RV.assign rfl) ?_
      refine LW.nil (hK8 _ _ ?_)
      refine CW.ret ?_
      obtain rfl := Option.some.inj F
      refine ⟨_, (ResOK.one rfl), ?_⟩
      refine ⟨(by first | rfl | simp), R0⟩
  ·
    replace F := ite_n hp1 F
    have hq1 := dec_f hp1
    refine CW.condT rfl (not_t hq1) ?_
    refine CW.seq fun K9 hK9 => ?_
    refine CW.region ?_
    refine LW.pure rfl rfl (RV.move rfl) ?_
    refine LW.pure rfl rfl (RV.assign rfl) ?_
    refine LW.nil (hK9 _ _ ?_)
    refine CW.ret ?_
    obtain rfl := Option.some.inj F
    refine ⟨_, (ResOK.one rfl), ?_⟩
    refine ⟨(by first | rfl | simp), R0⟩
set_option maxRecDepth 20000 in
theorem slices_Delete_Reading_core {l : List Reading} {A : Option Addr} {c i j : Nat} {w : World} (o : Own w A c 46 4 (l.map encReading)) (hij : i ≤ j) (hj : j ≤ l.length) : Calls Try.prog 107 #[.slice A l.length c, .int .i64 (i : Int), .int .i64 (j : Int)] w (fun e w' => e = .returned (.slice A (l.take i ++ l.drop j).length c) ∧ Own w' A c 46 4 ((l.take i ++ l.drop j).map encReading) ∧ Mod w w' A) := by
  have hc : l.length ≤ c := o.sl.le
  refine calls_of_cw (args := [.slice A l.length c, .int .i64 (i : Int), .int .i64 (j : Int)]) Try.func107 rfl rfl rfl rfl ?_
  refine CW.seq fun K1 hK1 => ?_
  refine CW.region ?_
  refine LW.pure rfl rfl (RV.assign rfl) ?_
  refine LW.nil (hK1 _ _ ?_)
  refine CW.seq fun K2 hK2 => ?_
  refine CW.region ?_
  refine LW.pure rfl rfl (RV.move rfl) ?_
  refine LW.pure rfl rfl (RV.move rfl) ?_
  refine LW.pure rfl rfl (RV.move rfl) ?_
  refine LW.pure rfl rfl (RV.move rfl) ?_
  refine LW.pure rfl rfl (RV.len Ts22 rfl) ?_
  refine LW.pure rfl rfl (RV.sliceLHM Ts22 rfl rfl rfl rfl ⟨by omega, by omega, by omega, by omega⟩) ?_
  refine LW.nil (hK2 _ _ ?_)
  refine CW.seq fun K3 hK3 => ?_
  refine CW.seq fun K4 hK4 => ?_
  refine CW.region ?_
  refine LW.pure rfl rfl (RV.move rfl) ?_
  refine LW.pure rfl rfl (RV.move rfl) ?_
  refine LW.pure rfl rfl (RV.eqi rfl rfl) ?_
  refine LW.nil (hK4 _ _ ?_)
  by_cases he : (i : Int) = (j : Int)
  · refine CW.condT rfl (dec_t he) ?_
    refine CW.seq fun K5 hK5 => ?_
    refine CW.region ?_
    refine LW.pure rfl rfl (RV.move rfl) ?_
    refine LW.pure rfl rfl (RV.assign rfl) ?_
    refine LW.nil (hK5 _ _ ?_)
    refine CW.ret ?_
    obtain rfl : i = j := by omega
    have e1 : l.take i ++ l.drop i = l := List.take_append_drop i l
    refine ⟨_, (ResOK.one rfl), ?_⟩
    rw [e1]
    exact ⟨rfl, o, Mod.refl _ _⟩
  · refine CW.condF rfl (dec_f he) ?_
    refine CW.skip (hK3 _ _ ?_)
    obtain ⟨b, rfl⟩ := o.at0 (by omega)
    refine CW.seq fun K6 hK6 => ?_
    refine CW.region ?_
    refine LW.pure rfl rfl (RV.move rfl) ?_
    refine LW.pure rfl rfl (RV.len Ts22 rfl) ?_
    refine LW.pure rfl rfl (RV.assign rfl) ?_
    refine LW.nil (hK6 _ _ ?_)
    refine CW.seq fun K7 hK7 => ?_
    have hl1 : (l.drop j).length = l.length - j := by simp
    have hl2 : (l.take i).length = i := by simp; omega
    have hAj : ∃ a, cutA (some (⟨b, 0, none⟩ : Addr)) c 4 j = some a := by unfold cutA; split <;> exact ⟨_, rfl⟩
    refine CW.draw [6] (fun _ => True) (.cons 0 2 (.cons 1 2 (.cons 2 1 (.cons 3 2 (.cons 4 2 (.cons 5 1 (.cons 6 0 (.cons 7 2 .nil)))))))) mixed (by kernel_rfl) fun w2 E => ?_
    have o2 := o.ext E
    refine DW.thru rfl rfl rfl (fun _ EQ => RV.move rfl) ?_
    refine DW.thru rfl rfl rfl (fun _ EQ => RV.move rfl) ?_
    refine DW.fix rfl rfl rfl (fun _ EQ => RV.sliceHi Ts22 rfl rfl ⟨by omega, by omega⟩) ?_
    refine DW.thru rfl rfl rfl (fun _ EQ => RV.move rfl) ?_
    refine DW.thru rfl rfl rfl (fun _ EQ => RV.move rfl) ?_
    refine DW.fix rfl rfl rfl (fun _ EQ => RV.sliceLo Ts22 rfl rfl ⟨Int.natCast_nonneg _, by omega⟩ hc) ?_
    have src := o2.sl.cut j l.length hj (Nat.le_refl _)
    rw [List.take_length] at src
    refine DW.sole rfl rfl rfl (OW.appendOver (l := l.take i) (xs := l.drop j) (zs := l.drop i) Ts22 rfl (by simp; omega) rfl (by rw [hl1]; simp) (by rw [List.take_append_drop]; exact o2) hAj src (fun _ => rfl) (fun _ => rfl) (by decide) (by simp; omega) fun w3 o3 M3 => ?_)
    refine ⟨fun h => absurd h (by decide), M3.modx (fun _ _ => trivial), ?_⟩
    refine DW.thru rfl rfl rfl (fun _ EQ => RV.assign rfl) ?_
    refine DW.nil (hK7 _ _ ?_)
    have hn : (l.take i ++ l.drop j).length = i + (l.length - j) := by rw [List.length_append, hl1, hl2]
    have hd : (List.drop (l.drop j).length (l.drop i)) = l.drop (i + (l.length - j)) := by rw [List.drop_drop, hl1]
    rw [hd] at o3
    refine CW.seq fun K8 hK8 => ?_
    refine CW.region ?_
    refine LW.pure rfl rfl (RV.move rfl) ?_
    refine LW.pure rfl rfl (RV.move rfl) ?_
    refine LW.pure rfl rfl (RV.len Ts22 rfl) ?_
    refine LW.pure rfl rfl (RV.move rfl) ?_
    refine LW.pure rfl rfl (RV.sliceLH Ts22 rfl rfl rfl ⟨by omega, by omega, by omega⟩) ?_
    have hlen : (l.take i ++ l.drop j ++ l.drop (i + (l.length - j))).length = l.length := by simp; omega
    refine LW.go rfl rfl (OW.clearSub (lo := i + (l.length - j)) (hi := l.length) ((⟨0, 0, 0, 0⟩ : Reading) : Reading) Ts22 rfl o3 (fun _ => rfl) rfl rfl (by decide) (by simp only [hn, Int.toNat_natCast]) (by simp only [hn, Int.toNat_natCast]) (by omega) (by rw [hlen]; exact Nat.le_refl _) rfl fun v w4 M4 o4 => ?_)
    refine LW.nil (hK8 _ _ ?_)
    have htk : List.take (i + (l.length - j)) (l.take i ++ l.drop j ++ l.drop (i + (l.length - j))) = l.take i ++ l.drop j := by rw [← hn, List.take_left]
    rw [htk, List.append_assoc, List.map_append] at o4
    have o5 := o4.shrink (by simp)
    refine CW.seq fun K9 hK9 => ?_
    refine CW.region ?_
    refine LW.pure rfl rfl (RV.move rfl) ?_
    refine LW.pure rfl rfl (RV.assign rfl) ?_
    refine LW.nil (hK9 _ _ ?_)
    refine CW.ret ?_
    exact ⟨_, (ResOK.one rfl), rfl, o5, (Mod.of_ext E).trans (M3.trans M4)⟩
set_option maxRecDepth 20000 in
theorem slices_Delete_Reading_ok {a0 : List Reading} {a1 : Int} {a2 : Int} {A_a0 : Option Addr} {c_a0 : Nat} {wb : World} {R : List Ck} {w : World} {res : List Reading} (H : Hp wb w ([.own A_a0 c_a0 46 4 (List.map encReading a0)] ++ R)) (F : slices_Delete_Reading a0 a1 a2 = some res) : Calls Try.prog 107 #[.slice A_a0 a0.length c_a0, .int .i64 a1, .int .i64 a2] w (fun e w' => e = .returned (.slice A_a0 res.length c_a0) ∧ Hp wb w' ([.own A_a0 c_a0 46 4 (List.map encReading res)] ++ R)) := by
  unfold slices_Delete_Reading at F
  obtain ⟨hg, F⟩ := gd_some F
  cases F
  obtain ⟨i, rfl⟩ : ∃ i : Nat, a1 = (i : Int) := ⟨Int.toNat a1, by omega⟩
  obtain ⟨j, rfl⟩ : ∃ j : Nat, a2 = (j : Int) := ⟨Int.toNat a2, by omega⟩
  rw [Int.toNat_natCast, Int.toNat_natCast]
  refine (slices_Delete_Reading_core (H.own 0 rfl) (i := i) (j := j) (by omega) (by omega)).mono ?_
  rintro _ w' ⟨rfl, o, M⟩
  exact ⟨rfl, H.mod 0 rfl M o (.inl rfl)⟩
set_option maxRecDepth 20000 in
set_option maxHeartbeats 1000000 in
theorem level_without_ok {a0 : Survey} {a1 : Int} {A_a0_readings : Option Addr} {c_a0_readings : Nat} {w : World} {res : Survey} (h_a0_readings : Sl w A_a0_readings c_a0_readings 4 (a0.readings.map encReading)) (F : level_without a0 a1 = some res) : Calls Try.prog 85 #[.agg #[.int .i64 a0.points, .slice A_a0_readings a0.readings.length c_a0_readings], .int .i64 a1] w (fun e w' => ∃ (A0_readings : Option Addr) (c0_readings : Nat), e = .returned (.agg #[.int .i64 res.points, .slice A0_readings res.readings.length c0_readings]) ∧ Hp w w' [.own A0_readings c0_readings 46 4 (List.map encReading res.readings)]) := by
  refine calls_of_cw (args := [.agg #[.int .i64 a0.points, .slice A_a0_readings a0.readings.length c_a0_readings], .int .i64 a1]) Try.func85 rfl rfl rfl rfl ?_
  have H := Hp.start w
  have R0 := H.ext
  unfold level_without at F
  refine CW.seq fun K1 hK1 => ?_
  refine CW.region ?_
  refine LW.go rfl rfl (OW.box rfl fun b1 w1 N1 => ?_)
  replace H := H.new N1 N1.blk
  replace R0 := H.ext
  refine LW.go rfl rfl (OW.alloc Tz24 fun b2 w2 N2 => ?_)
  replace H := H.new N2 N2.blk
  replace R0 := H.ext
  refine LW.nil (hK1 _ _ ?_)
  refine CW.seq fun K2 hK2 => ?_
  obtain ⟨r1, hr1, F⟩ := bnd_some F
  obtain ⟨hg1, F⟩ := gd_some F
  obtain ⟨r2, hr2, F⟩ := bnd_some F
  have H0 := H
  have hz : w2.heap.size ≤ w2.heap.size := Nat.le_refl _
  refine CW.draw [8, 10] (XB w2 [.blk b2 24 [.int .i64 0, .slice none 0 0], .blk b1 24 [.int .i64 a0.points, .slice A_a0_readings a0.readings.length c_a0_readings]] [0]) (.cons 5 1 (.cons 0 2 (.cons 1 2 (.cons 2 2 (.cons 3 2 (.cons 6 2 (.cons 7 1 (.cons 4 0 (.cons 8 0 (.cons 9 2 (.cons 10 0 .nil))))))))))) mixed (by kernel_rfl) fun w3 E1 => ?_
  replace H := H.grow E1
  replace R0 := H.ext
  replace hz := Nat.le_trans hz (Ext.size E1)
  refine DW.fix rfl rfl rfl (fun _ EQ => RV.move rfl) ?_
  refine DW.thru rfl rfl rfl (fun _ EQ => RV.fieldAddr Tf24_0 rfl) ?_
  refine DW.thru rfl rfl rfl (fun _ EQ => RV.load1 Tk3 rfl ((H.thruB 1 rfl EQ (H0.notX [0] 1 rfl (by decide))).cells.off 0) rfl) ?_
  refine DW.thru rfl rfl rfl (fun _ EQ => RV.fieldAddr Tf24_1 rfl) ?_
  refine DW.thru rfl rfl rfl (fun _ EQ => RV.load1 Tk22 rfl ((H.thruB 1 rfl EQ (H0.notX [0] 1 rfl (by decide))).cells.off 1) rfl) ?_
  refine DW.thru rfl rfl rfl (fun _ EQ => RV.move rfl) ?_
  refine DW.fix rfl rfl rfl (fun _ EQ => RV.add rfl rfl hg1) ?_
  refine DW.sole rfl rfl rfl (OW.call Tc70 rfl (slices_Clone_Reading_ok (a0 := a0.readings) (h_a0_readings.ext R0) hr1) ?_)
  rintro _ w4 ⟨A7_0, c7_0, rfl, E2⟩
  refine ⟨_, rfl, fun _ => E2.ext, ModX.ext E2.ext, ?_⟩
  have G0_A7_0 : Fresh w2 A7_0 := fun a ha => Nat.le_trans hz (E2.fresh 0 _ rfl a.block (mem_adB.2 ⟨a, ha, rfl⟩))
  replace H : Hp w w4 [.own A7_0 c7_0 46 4 (List.map encReading r1), .blk b2 24 [.int .i64 0, .slice none 0 0], .blk b1 24 [.int .i64 a0.points, .slice A_a0_readings a0.readings.length c_a0_readings]] := H.append E2
  replace R0 := H.ext
  replace hz := Nat.le_trans hz (Ext.size E2.ext)
  replace H := H.pick (L' := [.own A7_0 c7_0 46 4 (List.map encReading r1), .blk b2 24 [.int .i64 0, .slice none 0 0], .blk b1 24 [.int .i64 a0.points, .slice A_a0_readings a0.readings.length c_a0_readings]]) [0, 1, 2] (by decide) rfl
  replace R0 := H.ext
  obtain ⟨Ex1, HE1, Hz1⟩ := Hp.freeze (a := .own A7_0 c7_0 46 4 (List.map encReading r1)) (L := [.blk b2 24 [.int .i64 0, .slice none 0 0], .blk b1 24 [.int .i64 a0.points, .slice A_a0_readings a0.readings.length c_a0_readings]]) H
  refine DW.sole rfl rfl rfl (OW.call Tc107 rfl (slices_Delete_Reading_ok (a0 := r1) (a1 := a1) (a2 := a1 + 1) (R := Ex1) HE1 hr2) ?_)
  rintro _ w5 ⟨rfl, Hq1⟩
  obtain ⟨Hq1, hz1s, hz1k⟩ := Hz1 w5 (.own A7_0 c7_0 46 4 (List.map encReading r2)) [] rfl Hq1
  refine ⟨_, rfl, fun h => absurd h (by decide), ModX.frz hz1s hz1k (XB.newA G0_A7_0), ?_⟩
  replace H : Hp w w5 [.own A7_0 c7_0 46 4 (List.map encReading r2), .blk b2 24 [.int .i64 0, .slice none 0 0], .blk b1 24 [.int .i64 a0.points, .slice A_a0_readings a0.readings.length c_a0_readings]] := Hq1
  replace R0 := H.ext
  replace hz := Nat.le_trans hz hz1s
  refine DW.thru rfl rfl rfl (fun _ EQ => RV.build (vs := [.int .i64 a0.points, .slice A7_0 r2.length c7_0]) (cs := [.int .i64 a0.points, .slice A7_0 r2.length c7_0]) rfl (fun _ => by kernel_rfl)) ?_
  refine DW.sole rfl rfl rfl (OW.store Tk24 rfl rfl (H.blk 1 rfl) (off := 0) (vs := [.int .i64 a0.points, .slice A7_0 r2.length c7_0]) rfl rfl rfl rfl rfl fun w6 S1 => ?_)
  refine ⟨fun h => absurd h (by decide), S1.modx (XB.in_ 0 (by decide) rfl (List.mem_singleton.2 rfl)), ?_⟩
  replace H : Hp w w6 [.own A7_0 c7_0 46 4 (List.map encReading r2), .blk b2 24 [.int .i64 a0.points, .slice A7_0 r2.length c7_0], .blk b1 24 [.int .i64 a0.points, .slice A_a0_readings a0.readings.length c_a0_readings]] := H.stored 1 rfl S1
  replace R0 := H.ext
  replace hz := Nat.le_trans hz (Nat.le_of_eq S1.size.symm)
  refine DW.nil (hK2 _ _ ?_)
  refine CW.ret ?_
  obtain rfl := Option.some.inj F
  refine ⟨_, (ResOK.cell1 ⟨_, rfl, run_loadVar_agg Tk24 (H.blk 1 rfl).cells (us := [.int .i64 a0.points, .slice A7_0 r2.length c7_0]) rfl rfl⟩), ?_⟩
  replace H := H.pick (L' := [.own A7_0 c7_0 46 4 (List.map encReading r2)]) [0] (by decide) rfl
  replace R0 := H.ext
  exact ⟨A7_0, c7_0, (by first | rfl | (simp; done) | (simp; omega)), H⟩
set_option maxRecDepth 20000 in
set_option maxHeartbeats 1000000 in
theorem ref01_less_ok {a0 : Survey} {a1 : Int} {A_a0_readings : Option Addr} {c_a0_readings : Nat} {w : World} {res : Survey} (h_a0_readings : Sl w A_a0_readings c_a0_readings 4 (a0.readings.map encReading)) (F : ref01_less a0 a1 = some res) : Calls Try.prog 86 #[.agg #[.int .i64 a0.points, .slice A_a0_readings a0.readings.length c_a0_readings], .int .i64 a1] w (fun e w' => ∃ (A0_readings : Option Addr) (c0_readings : Nat), e = .returned (.agg #[.int .i64 res.points, .slice A0_readings res.readings.length c0_readings]) ∧ Hp w w' [.own A0_readings c0_readings 46 4 (List.map encReading res.readings)]) := by
  refine calls_of_cw (args := [.agg #[.int .i64 a0.points, .slice A_a0_readings a0.readings.length c_a0_readings], .int .i64 a1]) Try.func86 rfl rfl rfl rfl ?_
  have H := Hp.start w
  have R0 := H.ext
  unfold ref01_less at F
  refine CW.seq fun K1 hK1 => ?_
  refine CW.region ?_
  refine LW.go rfl rfl (OW.box rfl fun b1 w1 N1 => ?_)
  replace H := H.new N1 N1.blk
  replace R0 := H.ext
  refine LW.go rfl rfl (OW.alloc Tz24 fun b2 w2 N2 => ?_)
  replace H := H.new N2 N2.blk
  replace R0 := H.ext
  refine LW.nil (hK1 _ _ ?_)
  refine CW.seq fun K2 hK2 => ?_
  obtain ⟨hg1, F⟩ := gd_some F
  obtain ⟨hg2, F⟩ := gd_some F
  obtain ⟨hg3, F⟩ := gd_some F
  obtain ⟨hg4, F⟩ := gd_some F
  obtain ⟨hg5, F⟩ := gd_some F
  have H0 := H
  have hz : w2.heap.size ≤ w2.heap.size := Nat.le_refl _
  refine CW.draw [7, 13, 15] (XB w2 [.blk b2 24 [.int .i64 0, .slice none 0 0], .blk b1 24 [.int .i64 a0.points, .slice A_a0_readings a0.readings.length c_a0_readings]] [0]) (.cons 0 2 (.cons 1 2 (.cons 3 2 (.cons 4 2 (.cons 5 2 (.cons 6 2 (.cons 8 2 (.cons 9 2 (.cons 10 2 (.cons 11 2 (.cons 12 2 (.cons 2 0 (.cons 7 0 (.cons 13 0 (.cons 14 2 (.cons 15 0 .nil)))))))))))))))) mixed (by kernel_rfl) fun w3 E1 => ?_
  replace H := H.grow E1
  replace R0 := H.ext
  replace hz := Nat.le_trans hz (Ext.size E1)
  refine DW.thru rfl rfl rfl (fun _ EQ => RV.fieldAddr Tf24_0 rfl) ?_
  refine DW.thru rfl rfl rfl (fun _ EQ => RV.load1 Tk3 rfl ((H.thruB 1 rfl EQ (H0.notX [0] 1 rfl (by decide))).cells.off 0) rfl) ?_
  refine DW.thru rfl rfl rfl (fun _ EQ => RV.fieldAddr Tf24_1 rfl) ?_
  refine DW.thru rfl rfl rfl (fun _ EQ => RV.load1 Tk22 rfl ((H.thruB 1 rfl EQ (H0.notX [0] 1 rfl (by decide))).cells.off 1) rfl) ?_
  refine DW.thru rfl rfl rfl (fun _ EQ => RV.move rfl) ?_
  refine DW.thru rfl rfl rfl (fun _ EQ => RV.cutH (l := a0.readings) Ts22 rfl rfl hg1 (h_a0_readings.ext R0).le rfl) ?_
  refine DW.thru rfl rfl rfl (fun _ EQ => RV.fieldAddr Tf24_1 rfl) ?_
  refine DW.thru rfl rfl rfl (fun _ EQ => RV.load1 Tk22 rfl ((H.thruB 1 rfl EQ (H0.notX [0] 1 rfl (by decide))).cells.off 1) rfl) ?_
  refine DW.thru rfl rfl rfl (fun _ EQ => RV.move rfl) ?_
  refine DW.thru rfl rfl rfl (fun _ EQ => RV.add rfl rfl hg3) ?_
  refine DW.thru rfl rfl rfl (fun _ EQ => RV.cutL (l := a0.readings) Ts22 rfl rfl hg4 (h_a0_readings.ext R0).le rfl) ?_
  refine DW.sole rfl rfl rfl (OW.buildSlice (e := 46) (vs := []) (cs := []) rfl (fun _ => by kernel_rfl) fun b3 w4 N3 => ?_)
  refine ⟨fun _ => N3.ext, ModX.ext N3.ext, ?_⟩
  have G0_b3 : w2.heap.size ≤ b3 := by rw [N3.at_]; exact hz
  replace H := H.made' (k := 4) (t := 46) (enc := encReading) (l := ([] : List Reading)) N3 N3.blk (fun _ => rfl) rfl (by first | decide | omega | (simp; done) | (simp; omega))
  replace R0 := H.ext
  replace hz := Nat.le_trans hz (Ext.size N3.ext)
  refine DW.sole rfl rfl rfl (OW.appendG (enc := encReading) (l := ([] : List Reading)) (xs := (List.take (Int.toNat a1) a0.readings)) Ts22 (look_slice rfl (by first | rfl | (simp; done) | (simp; omega))) rfl (H.own 0 rfl) ((h_a0_readings.ext R0).cutH hg1) (fun _ => rfl) rfl rfl hg2 (by decide) fun A1 c1 w5 O1 M1 D1 => ?_)
  have G0_A1 := Fresh.nextZ (Fresh.at_ G0_b3) D1 hz
  refine ⟨fun h => absurd h (by decide), M1.modx (XB.newA (Fresh.at_ G0_b3)), ?_⟩
  replace H : Hp w w5 [.own A1 c1 46 4 (List.map encReading ((([] : List Reading) ++ (List.take (Int.toNat a1) a0.readings)))), .blk b2 24 [.int .i64 0, .slice none 0 0], .blk b1 24 [.int .i64 a0.points, .slice A_a0_readings a0.readings.length c_a0_readings]] := H.mod 0 rfl M1 O1 D1
  replace R0 := H.ext
  replace hz := Nat.le_trans hz M1.size
  refine DW.sole rfl rfl rfl (OW.appendG (enc := encReading) (l := (([] : List Reading) ++ (List.take (Int.toNat a1) a0.readings))) (xs := (List.drop (Int.toNat (a1 + 1)) a0.readings)) Ts22 rfl rfl (H.own 0 rfl) ((h_a0_readings.ext R0).cutL hg4) (fun _ => rfl) rfl rfl hg5 (by decide) fun A2 c2 w6 O2 M2 D2 => ?_)
  have G0_A2 := Fresh.nextZ G0_A1 D2 hz
  refine ⟨fun h => absurd h (by decide), M2.modx (XB.newA G0_A1), ?_⟩
  replace H : Hp w w6 [.own A2 c2 46 4 (List.map encReading (((([] : List Reading) ++ (List.take (Int.toNat a1) a0.readings)) ++ (List.drop (Int.toNat (a1 + 1)) a0.readings)))), .blk b2 24 [.int .i64 0, .slice none 0 0], .blk b1 24 [.int .i64 a0.points, .slice A_a0_readings a0.readings.length c_a0_readings]] := H.mod 0 rfl M2 O2 D2
  replace R0 := H.ext
  replace hz := Nat.le_trans hz M2.size
  refine DW.thru rfl rfl rfl (fun _ EQ => RV.build (vs := [.int .i64 a0.points, .slice A2 ((((([] : List Reading) ++ (List.take (Int.toNat a1) a0.readings)) ++ (List.drop (Int.toNat (a1 + 1)) a0.readings))).length) c2]) (cs := [.int .i64 a0.points, .slice A2 ((((([] : List Reading) ++ (List.take (Int.toNat a1) a0.readings)) ++ (List.drop (Int.toNat (a1 + 1)) a0.readings))).length) c2]) rfl (fun _ => by kernel_rfl)) ?_
  refine DW.sole rfl rfl rfl (OW.store Tk24 rfl rfl (H.blk 1 rfl) (off := 0) (vs := [.int .i64 a0.points, .slice A2 ((((([] : List Reading) ++ (List.take (Int.toNat a1) a0.readings)) ++ (List.drop (Int.toNat (a1 + 1)) a0.readings))).length) c2]) rfl rfl rfl rfl rfl fun w7 S1 => ?_)
  refine ⟨fun h => absurd h (by decide), S1.modx (XB.in_ 0 (by decide) rfl (List.mem_singleton.2 rfl)), ?_⟩
  replace H : Hp w w7 [.own A2 c2 46 4 (List.map encReading (((([] : List Reading) ++ (List.take (Int.toNat a1) a0.readings)) ++ (List.drop (Int.toNat (a1 + 1)) a0.readings)))), .blk b2 24 [.int .i64 a0.points, .slice A2 ((((([] : List Reading) ++ (List.take (Int.toNat a1) a0.readings)) ++ (List.drop (Int.toNat (a1 + 1)) a0.readings))).length) c2], .blk b1 24 [.int .i64 a0.points, .slice A_a0_readings a0.readings.length c_a0_readings]] := H.stored 1 rfl S1
  replace R0 := H.ext
  replace hz := Nat.le_trans hz (Nat.le_of_eq S1.size.symm)
  refine DW.nil (hK2 _ _ ?_)
  refine CW.ret ?_
  obtain rfl := Option.some.inj F
  refine ⟨_, (ResOK.cell1 ⟨_, rfl, run_loadVar_agg Tk24 (H.blk 1 rfl).cells (us := [.int .i64 a0.points, .slice A2 ((((([] : List Reading) ++ (List.take (Int.toNat a1) a0.readings)) ++ (List.drop (Int.toNat (a1 + 1)) a0.readings))).length) c2]) rfl rfl⟩), ?_⟩
  replace H := H.pick (L' := [.own A2 c2 46 4 (List.map encReading (((([] : List Reading) ++ (List.take (Int.toNat a1) a0.readings)) ++ (List.drop (Int.toNat (a1 + 1)) a0.readings))))]) [0] (by decide) rfl
  replace R0 := H.ext
  exact ⟨A2, c2, (by first | rfl | (simp; done) | (simp; omega)), H⟩
end Go.D1

set_option linter.unusedVariables false
set_option linter.unusedSimpArgs false
namespace Go.D1
open Go.Tb Go.Proofs Go.RowKit
theorem Tc86 : callable Try.prog 86 = true := by kernel_rfl
end Go.D1

set_option linter.unusedVariables false
set_option linter.unusedSimpArgs false
namespace Go.D1
open Go.Tb Go.Proofs Go.RowKit
theorem Tc47 : callable Try.prog 47 = true := by kernel_rfl
theorem Tc48 : callable Try.prog 48 = true := by kernel_rfl
theorem Tc49 : callable Try.prog 49 = true := by kernel_rfl
theorem Tc50 : callable Try.prog 50 = true := by kernel_rfl
set_option maxRecDepth 20000 in
set_option maxHeartbeats 1000000 in
theorem level_Without_ok {a0 : Survey} {a1 : Int} {A_a0_readings : Option Addr} {c_a0_readings : Nat} {w : World} {res : Survey × Int} (h_a0_readings : Sl w A_a0_readings c_a0_readings 4 (a0.readings.map encReading)) (F : level_Without a0 a1 = some res) : Calls Try.prog 47 #[.agg #[.int .i64 a0.points, .slice A_a0_readings a0.readings.length c_a0_readings], .int .i64 a1] w (fun e w' => ∃ (A0_readings : Option Addr) (c0_readings : Nat), e = .returned (.tuple #[.agg #[.int .i64 res.1.points, .slice A0_readings res.1.readings.length c0_readings], .int .i64 res.2]) ∧ Hp w w' [.own A0_readings c0_readings 46 4 (List.map encReading res.1.readings)]) := by
  refine calls_of_cw (args := [.agg #[.int .i64 a0.points, .slice A_a0_readings a0.readings.length c_a0_readings], .int .i64 a1]) Try.func47 rfl rfl rfl rfl ?_
  have H := Hp.start w
  have R0 := H.ext
  unfold level_Without at F
  refine CW.seq fun K1 hK1 => ?_
  refine CW.region ?_
  refine LW.go rfl rfl (OW.box rfl fun b1 w1 N1 => ?_)
  replace H := H.new N1 N1.blk
  replace R0 := H.ext
  refine LW.go rfl rfl (OW.alloc Tz24 fun b2 w2 N2 => ?_)
  replace H := H.new N2 N2.blk
  replace R0 := H.ext
  refine LW.pure rfl rfl (RV.assign rfl) ?_
  refine LW.nil (hK1 _ _ ?_)
  refine CW.seq fun K2 hK2 => ?_
  refine CW.seq fun K3 hK3 => ?_
  obtain ⟨r1, hr1, F⟩ := bnd_some F
  refine CW.region ?_
  refine LW.pure rfl rfl (RV.loadA [.int .i64 a0.points, .slice A_a0_readings a0.readings.length c_a0_readings] Tk24 rfl (H.blk 1 rfl).cells rfl rfl) ?_
  refine LW.pure rfl rfl (RV.move rfl) ?_
  refine LW.go rfl rfl (OW.call Tc72 rfl (level_reading_ok (a0 := a0) (a1 := a1) (h_a0_readings.ext R0) hr1) ?_)
  rintro _ w3 ⟨rfl, E1⟩
  refine ⟨_, rfl, ?_⟩
  replace H := H.grow E1
  replace R0 := H.ext
  refine LW.pure rfl rfl (RV.assign rfl) ?_
  refine LW.nil (hK3 _ _ ?_)
  refine CW.seq fun K4 hK4 => ?_
  refine CW.region ?_
  refine LW.pure rfl rfl (RV.move rfl) ?_
  refine LW.pure rfl rfl (RV.nei rfl rfl) ?_
  refine LW.nil (hK4 _ _ ?_)
  by_cases hp1 : r1 = 0
  ·
    replace F := ite_y hp1 F
    have hq1 := dec_t hp1
    refine CW.condF rfl (not_f hq1) ?_
    refine CW.skip (hK2 _ _ ?_)
    refine CW.seq fun K5 hK5 => ?_
    obtain ⟨r2, hr2, F⟩ := bnd_some F
    refine CW.region ?_
    refine LW.pure rfl rfl (RV.loadA [.int .i64 a0.points, .slice A_a0_readings a0.readings.length c_a0_readings] Tk24 rfl (H.blk 1 rfl).cells rfl rfl) ?_
    refine LW.pure rfl rfl (RV.move rfl) ?_
    refine LW.go rfl rfl (OW.call Tc85 rfl (level_without_ok (a0 := a0) (a1 := a1) (h_a0_readings.ext R0) hr2) ?_)
    rintro _ w4 ⟨A6_0_readings, c6_0_readings, rfl, E2⟩
    refine ⟨_, rfl, ?_⟩
    replace H : Hp w w4 [.own A6_0_readings c6_0_readings 46 4 (List.map encReading r2.readings), .blk b2 24 [.int .i64 0, .slice none 0 0], .blk b1 24 [.int .i64 a0.points, .slice A_a0_readings a0.readings.length c_a0_readings]] := H.append E2
    replace R0 := H.ext
    refine LW.go rfl rfl (OW.store Tk24 rfl rfl (H.blk 1 rfl) (off := 0) (vs := [.int .i64 r2.points, .slice A6_0_readings r2.readings.length c6_0_readings]) rfl rfl rfl rfl rfl fun w5 S1 => ?_)
    replace H : Hp w w5 [.own A6_0_readings c6_0_readings 46 4 (List.map encReading r2.readings), .blk b2 24 [.int .i64 r2.points, .slice A6_0_readings r2.readings.length c6_0_readings], .blk b1 24 [.int .i64 a0.points, .slice A_a0_readings a0.readings.length c_a0_readings]] := H.stored 1 rfl S1
    replace R0 := H.ext
    refine LW.pure rfl rfl (RV.assign rfl) ?_
    refine LW.nil (hK5 _ _ ?_)
    refine CW.ret ?_
    obtain rfl := Option.some.inj F
    refine ⟨_, (ResOK.two ⟨_, rfl, run_loadVar_agg Tk24 (H.blk 1 rfl).cells (us := [.int .i64 r2.points, .slice A6_0_readings r2.readings.length c6_0_readings]) rfl rfl⟩ rfl), ?_⟩
    replace H := H.pick (L' := [.own A6_0_readings c6_0_readings 46 4 (List.map encReading r2.readings)]) [0] (by decide) rfl
    replace R0 := H.ext
    exact ⟨A6_0_readings, c6_0_readings, (by first | rfl | (simp; done) | (simp; omega)), H⟩
  ·
    replace F := ite_n hp1 F
    have hq1 := dec_f hp1
    refine CW.condT rfl (not_t hq1) ?_
    refine CW.seq fun K6 hK6 => ?_
    refine CW.region ?_
    refine LW.pure rfl rfl (RV.build (vs := []) (cs := [.int .i64 0, .slice none 0 0]) rfl (fun _ => by kernel_rfl)) ?_
    refine LW.pure rfl rfl (RV.move rfl) ?_
    refine LW.go rfl rfl (OW.store Tk24 rfl rfl (H.blk 0 rfl) (off := 0) (vs := [.int .i64 0, .slice none 0 0]) rfl rfl rfl rfl rfl fun w6 S2 => ?_)
    replace H : Hp w w6 [.blk b2 24 [.int .i64 0, .slice none 0 0], .blk b1 24 [.int .i64 a0.points, .slice A_a0_readings a0.readings.length c_a0_readings]] := H.stored 0 rfl S2
    replace R0 := H.ext
    refine LW.pure rfl rfl (RV.assign rfl) ?_
    refine LW.nil (hK6 _ _ ?_)
    refine CW.ret ?_
    obtain rfl := Option.some.inj F
    refine ⟨_, (ResOK.two ⟨_, rfl, run_loadVar_agg Tk24 (H.blk 0 rfl).cells (us := [.int .i64 0, .slice none 0 0]) rfl rfl⟩ rfl), ?_⟩
    replace H := H.nilOwn 46 4
    replace R0 := H.ext
    replace H := H.pick (L' := [.own none 0 46 4 (List.map encReading (([] : List Reading)))]) [0] (by decide) rfl
    replace R0 := H.ext
    exact ⟨none, 0, (by first | rfl | (simp; done) | (simp; omega)), H⟩
set_option maxRecDepth 20000 in
set_option maxHeartbeats 1000000 in
theorem ref01_Without_ok {a0 : Survey} {a1 : Int} {A_a0_readings : Option Addr} {c_a0_readings : Nat} {w : World} {res : Survey × Int} (h_a0_readings : Sl w A_a0_readings c_a0_readings 4 (a0.readings.map encReading)) (F : ref01_Without a0 a1 = some res) : Calls Try.prog 48 #[.agg #[.int .i64 a0.points, .slice A_a0_readings a0.readings.length c_a0_readings], .int .i64 a1] w (fun e w' => ∃ (A0_readings : Option Addr) (c0_readings : Nat), e = .returned (.tuple #[.agg #[.int .i64 res.1.points, .slice A0_readings res.1.readings.length c0_readings], .int .i64 res.2]) ∧ Hp w w' [.own A0_readings c0_readings 46 4 (List.map encReading res.1.readings)]) := by
  refine calls_of_cw (args := [.agg #[.int .i64 a0.points, .slice A_a0_readings a0.readings.length c_a0_readings], .int .i64 a1]) Try.func48 rfl rfl rfl rfl ?_
  have H := Hp.start w
  have R0 := H.ext
  unfold ref01_Without at F
  refine CW.seq fun K1 hK1 => ?_
  refine CW.region ?_
  refine LW.go rfl rfl (OW.box rfl fun b1 w1 N1 => ?_)
  replace H := H.new N1 N1.blk
  replace R0 := H.ext
  refine LW.go rfl rfl (OW.alloc Tz24 fun b2 w2 N2 => ?_)
  replace H := H.new N2 N2.blk
  replace R0 := H.ext
  refine LW.pure rfl rfl (RV.assign rfl) ?_
  refine LW.nil (hK1 _ _ ?_)
  refine CW.seq fun K2 hK2 => ?_
  refine CW.seq fun K3 hK3 => ?_
  obtain ⟨r1, hr1, F⟩ := bnd_some F
  refine CW.region ?_
  refine LW.pure rfl rfl (RV.loadA [.int .i64 a0.points, .slice A_a0_readings a0.readings.length c_a0_readings] Tk24 rfl (H.blk 1 rfl).cells rfl rfl) ?_
  refine LW.pure rfl rfl (RV.move rfl) ?_
  refine LW.go rfl rfl (OW.call Tc84 rfl (ref01_numbered_ok (a0 := a0) (a1 := a1) (h_a0_readings.ext R0) hr1) ?_)
  rintro _ w3 ⟨rfl, E1⟩
  refine ⟨_, rfl, ?_⟩
  replace H := H.grow E1
  replace R0 := H.ext
  refine LW.pure rfl rfl (RV.assign rfl) ?_
  refine LW.nil (hK3 _ _ ?_)
  refine CW.seq fun K4 hK4 => ?_
  refine CW.region ?_
  refine LW.pure rfl rfl (RV.move rfl) ?_
  refine LW.pure rfl rfl (RV.nei rfl rfl) ?_
  refine LW.nil (hK4 _ _ ?_)
  by_cases hp1 : r1 = 0
  ·
    replace F := ite_y hp1 F
    have hq1 := dec_t hp1
    refine CW.condF rfl (not_f hq1) ?_
    refine CW.skip (hK2 _ _ ?_)
    refine CW.seq fun K5 hK5 => ?_
    obtain ⟨r2, hr2, F⟩ := bnd_some F
    refine CW.region ?_
    refine LW.pure rfl rfl (RV.loadA [.int .i64 a0.points, .slice A_a0_readings a0.readings.length c_a0_readings] Tk24 rfl (H.blk 1 rfl).cells rfl rfl) ?_
    refine LW.pure rfl rfl (RV.move rfl) ?_
    refine LW.go rfl rfl (OW.call Tc86 rfl (ref01_less_ok (a0 := a0) (a1 := a1) (h_a0_readings.ext R0) hr2) ?_)
    rintro _ w4 ⟨A6_0_readings, c6_0_readings, rfl, E2⟩
    refine ⟨_, rfl, ?_⟩
    replace H : Hp w w4 [.own A6_0_readings c6_0_readings 46 4 (List.map encReading r2.readings), .blk b2 24 [.int .i64 0, .slice none 0 0], .blk b1 24 [.int .i64 a0.points, .slice A_a0_readings a0.readings.length c_a0_readings]] := H.append E2
    replace R0 := H.ext
    refine LW.go rfl rfl (OW.store Tk24 rfl rfl (H.blk 1 rfl) (off := 0) (vs := [.int .i64 r2.points, .slice A6_0_readings r2.readings.length c6_0_readings]) rfl rfl rfl rfl rfl fun w5 S1 => ?_)
    replace H : Hp w w5 [.own A6_0_readings c6_0_readings 46 4 (List.map encReading r2.readings), .blk b2 24 [.int .i64 r2.points, .slice A6_0_readings r2.readings.length c6_0_readings], .blk b1 24 [.int .i64 a0.points, .slice A_a0_readings a0.readings.length c_a0_readings]] := H.stored 1 rfl S1
    replace R0 := H.ext
    refine LW.pure rfl rfl (RV.assign rfl) ?_
    refine LW.nil (hK5 _ _ ?_)
    refine CW.ret ?_
    obtain rfl := Option.some.inj F
    refine ⟨_, (ResOK.two ⟨_, rfl, run_loadVar_agg Tk24 (H.blk 1 rfl).cells (us := [.int .i64 r2.points, .slice A6_0_readings r2.readings.length c6_0_readings]) rfl rfl⟩ rfl), ?_⟩
    replace H := H.pick (L' := [.own A6_0_readings c6_0_readings 46 4 (List.map encReading r2.readings)]) [0] (by decide) rfl
    replace R0 := H.ext
    exact ⟨A6_0_readings, c6_0_readings, (by first | rfl | (simp; done) | (simp; omega)), H⟩
  ·
    replace F := ite_n hp1 F
    have hq1 := dec_f hp1
    refine CW.condT rfl (not_t hq1) ?_
    refine CW.seq fun K6 hK6 => ?_
    refine CW.region ?_
    refine LW.pure rfl rfl (RV.build (vs := []) (cs := [.int .i64 0, .slice none 0 0]) rfl (fun _ => by kernel_rfl)) ?_
    refine LW.pure rfl rfl (RV.move rfl) ?_
    refine LW.go rfl rfl (OW.store Tk24 rfl rfl (H.blk 0 rfl) (off := 0) (vs := [.int .i64 0, .slice none 0 0]) rfl rfl rfl rfl rfl fun w6 S2 => ?_)
    replace H : Hp w w6 [.blk b2 24 [.int .i64 0, .slice none 0 0], .blk b1 24 [.int .i64 a0.points, .slice A_a0_readings a0.readings.length c_a0_readings]] := H.stored 0 rfl S2
    replace R0 := H.ext
    refine LW.pure rfl rfl (RV.assign rfl) ?_
    refine LW.nil (hK6 _ _ ?_)
    refine CW.ret ?_
    obtain rfl := Option.some.inj F
    refine ⟨_, (ResOK.two ⟨_, rfl, run_loadVar_agg Tk24 (H.blk 0 rfl).cells (us := [.int .i64 0, .slice none 0 0]) rfl rfl⟩ rfl), ?_⟩
    replace H := H.nilOwn 46 4
    replace R0 := H.ext
    replace H := H.pick (L' := [.own none 0 46 4 (List.map encReading (([] : List Reading)))]) [0] (by decide) rfl
    replace R0 := H.ext
    exact ⟨none, 0, (by first | rfl | (simp; done) | (simp; omega)), H⟩
set_option maxRecDepth 20000 in
set_option maxHeartbeats 1000000 in
theorem level_Turn_ok {a0 : Survey} {a1 : Int} {A_a0_readings : Option Addr} {c_a0_readings : Nat} {w : World} {res : Survey × Int} (h_a0_readings : Sl w A_a0_readings c_a0_readings 4 (a0.readings.map encReading)) (F : level_Turn a0 a1 = some res) : Calls Try.prog 49 #[.agg #[.int .i64 a0.points, .slice A_a0_readings a0.readings.length c_a0_readings], .int .i64 a1] w (fun e w' => ∃ (A0_readings : Option Addr) (c0_readings : Nat), e = .returned (.tuple #[.agg #[.int .i64 res.1.points, .slice A0_readings res.1.readings.length c0_readings], .int .i64 res.2]) ∧ Hp w w' [.own A0_readings c0_readings 46 4 (List.map encReading res.1.readings)]) := by
  refine calls_of_cw (args := [.agg #[.int .i64 a0.points, .slice A_a0_readings a0.readings.length c_a0_readings], .int .i64 a1]) Try.func49 rfl rfl rfl rfl ?_
  have H := Hp.start w
  have R0 := H.ext
  unfold level_Turn at F
  refine CW.seq fun K1 hK1 => ?_
  refine CW.region ?_
  refine LW.go rfl rfl (OW.box rfl fun b1 w1 N1 => ?_)
  replace H := H.new N1 N1.blk
  replace R0 := H.ext
  refine LW.go rfl rfl (OW.alloc Tz24 fun b2 w2 N2 => ?_)
  replace H := H.new N2 N2.blk
  replace R0 := H.ext
  refine LW.pure rfl rfl (RV.assign rfl) ?_
  refine LW.nil (hK1 _ _ ?_)
  refine CW.seq fun K2 hK2 => ?_
  refine CW.seq fun K3 hK3 => ?_
  obtain ⟨r1, hr1, F⟩ := bnd_some F
  refine CW.region ?_
  refine LW.pure rfl rfl (RV.loadA [.int .i64 a0.points, .slice A_a0_readings a0.readings.length c_a0_readings] Tk24 rfl (H.blk 1 rfl).cells rfl rfl) ?_
  refine LW.pure rfl rfl (RV.move rfl) ?_
  refine LW.go rfl rfl (OW.call Tc72 rfl (level_reading_ok (a0 := a0) (a1 := a1) (h_a0_readings.ext R0) hr1) ?_)
  rintro _ w3 ⟨rfl, E1⟩
  refine ⟨_, rfl, ?_⟩
  replace H := H.grow E1
  replace R0 := H.ext
  refine LW.pure rfl rfl (RV.assign rfl) ?_
  refine LW.nil (hK3 _ _ ?_)
  refine CW.seq fun K4 hK4 => ?_
  refine CW.region ?_
  refine LW.pure rfl rfl (RV.move rfl) ?_
  refine LW.pure rfl rfl (RV.nei rfl rfl) ?_
  refine LW.nil (hK4 _ _ ?_)
  by_cases hp1 : r1 = 0
  ·
    replace F := ite_y hp1 F
    have hq1 := dec_t hp1
    refine CW.condF rfl (not_f hq1) ?_
    refine CW.skip (hK2 _ _ ?_)
    refine CW.seqJ (fun ρ wl1 => (∃ (l1 : List Reading) (bk1 : Nat) (Al1 : Option Addr) (cl1 : Nat), level_Turn_k1 a0 a1 l1 = some res ∧ ρ = [(1, .int .i64 a1), (2, .pointer (some (⟨b1, 0, none⟩))), (4, .pointer (some (⟨b2, 0, none⟩))), (5, .int .i64 0), (7, .pointer (some (⟨bk1, 0, none⟩)))] ∧ Hp w wl1 [.own Al1 cl1 46 4 (List.map encReading l1), .blk b1 24 [.int .i64 a0.points, .slice A_a0_readings a0.readings.length c_a0_readings], .blk b2 24 [.int .i64 0, .slice none 0 0], .blk bk1 24 [.int .i64 a0.points, .slice Al1 l1.length cl1]])) ?_ ?_
    ·
      rintro _ wl1 ⟨l1, bk1, Al1, cl1, F, rfl, H⟩
      have R0 := H.ext
      unfold level_Turn_k1 at F
      refine CW.seq fun K5 hK5 => ?_
      obtain ⟨x1, hbx1, hx1, F⟩ := ix_some F
      refine CW.region ?_
      refine LW.pure rfl rfl (RV.fieldAddr Tf24_1 rfl) ?_
      refine LW.pure rfl rfl (RV.load1 Tk22 rfl ((H.blk 1 rfl).cells.off 1) rfl) ?_
      refine LW.pure rfl rfl (RV.move rfl) ?_
      refine LW.pure rfl rfl (RV.indexAddr Ts22 rfl rfl hbx1 (h_a0_readings.addr_ hx1)) ?_
      refine LW.pure rfl rfl (RV.loadA [.int .i64 x1.from_, .int .i64 x1.to_, .int .i64 x1.rise, .int .i64 x1.weight] Tk46 rfl ((h_a0_readings.at_ hx1).ext R0) rfl rfl) ?_
      refine LW.go rfl rfl (OW.alloc Tz46 fun b3 w4 N3 => ?_)
      replace H := H.new N3 N3.blk
      replace R0 := H.ext
      refine LW.go rfl rfl (OW.store Tk46 rfl rfl (H.blk 0 rfl) (off := 0) (vs := [.int .i64 x1.from_, .int .i64 x1.to_, .int .i64 x1.rise, .int .i64 x1.weight]) rfl rfl rfl rfl rfl fun w5 S1 => ?_)
      replace H : Hp w w5 [.blk b3 46 [.int .i64 x1.from_, .int .i64 x1.to_, .int .i64 x1.rise, .int .i64 x1.weight], .own Al1 cl1 46 4 (List.map encReading l1), .blk b1 24 [.int .i64 a0.points, .slice A_a0_readings a0.readings.length c_a0_readings], .blk b2 24 [.int .i64 0, .slice none 0 0], .blk bk1 24 [.int .i64 a0.points, .slice Al1 l1.length cl1]] := H.stored 0 rfl S1
      replace R0 := H.ext
      refine LW.nil (hK5 _ _ ?_)
      refine CW.seq fun K6 hK6 => ?_
      obtain ⟨hg1, F⟩ := gd_some F
      obtain ⟨x2, hbx2, hx2, F⟩ := ix_some F
      refine CW.region ?_
      refine LW.pure rfl rfl (RV.fieldAddr Tf24_1 rfl) ?_
      refine LW.pure rfl rfl (RV.load1 Tk22 rfl ((H.blk 4 rfl).cells.off 1) rfl) ?_
      refine LW.pure rfl rfl (RV.move rfl) ?_
      refine LW.pure rfl rfl (RV.fieldAddr Tf46_1 rfl) ?_
      refine LW.pure rfl rfl (RV.load1 Tk3 rfl ((H.blk 0 rfl).cells.off 1) rfl) ?_
      refine LW.pure rfl rfl (RV.fieldAddr Tf46_0 rfl) ?_
      refine LW.pure rfl rfl (RV.load1 Tk3 rfl ((H.blk 0 rfl).cells.off 0) rfl) ?_
      refine LW.pure rfl rfl (RV.fieldAddr Tf46_2 rfl) ?_
      refine LW.pure rfl rfl (RV.load1 Tk3 rfl ((H.blk 0 rfl).cells.off 2) rfl) ?_
      refine LW.pure rfl rfl (RV.neg rfl hg1) ?_
      refine LW.pure rfl rfl (RV.fieldAddr Tf46_3 rfl) ?_
      refine LW.pure rfl rfl (RV.load1 Tk3 rfl ((H.blk 0 rfl).cells.off 3) rfl) ?_
      refine LW.pure rfl rfl (RV.build (vs := [.int .i64 x1.to_, .int .i64 x1.from_, .int .i64 (-x1.rise), .int .i64 x1.weight]) (cs := [.int .i64 x1.to_, .int .i64 x1.from_, .int .i64 (-x1.rise), .int .i64 x1.weight]) rfl (fun _ => by kernel_rfl)) ?_
      refine LW.pure rfl rfl (RV.indexAddr Ts22 rfl rfl hbx2 ((H.own 1 rfl).sl.addr_ hx2)) ?_
      refine LW.go rfl rfl (OW.storeO (enc := encReading) (vs := [.int .i64 x1.to_, .int .i64 x1.from_, .int .i64 (-x1.rise), .int .i64 x1.weight]) 0 ((⟨x1.to_, x1.from_, -x1.rise, x1.weight⟩ : Reading)) Tk46 rfl rfl (H.own 1 rfl) (fun _ => rfl) rfl hx2 rfl rfl (by decide) rfl rfl fun w6 M1 O1 => ?_)
      replace H : Hp w w6 [.blk b3 46 [.int .i64 x1.from_, .int .i64 x1.to_, .int .i64 x1.rise, .int .i64 x1.weight], .own Al1 cl1 46 4 (List.map encReading ((l1.set (Int.toNat a1) ((⟨x1.to_, x1.from_, -x1.rise, x1.weight⟩ : Reading))))), .blk b1 24 [.int .i64 a0.points, .slice A_a0_readings a0.readings.length c_a0_readings], .blk b2 24 [.int .i64 0, .slice none 0 0], .blk bk1 24 [.int .i64 a0.points, .slice Al1 l1.length cl1]] := H.mod 1 rfl M1 O1 (.inl rfl)
      replace R0 := H.ext
      refine LW.nil (hK6 _ _ ?_)
      refine CW.seq fun K7 hK7 => ?_
      refine CW.region ?_
      refine LW.pure rfl rfl (RV.loadA [.int .i64 a0.points, .slice Al1 l1.length cl1] Tk24 rfl (H.blk 4 rfl).cells rfl rfl) ?_
      refine LW.go rfl rfl (OW.store Tk24 rfl rfl (H.blk 3 rfl) (off := 0) (vs := [.int .i64 a0.points, .slice Al1 l1.length cl1]) rfl rfl rfl rfl rfl fun w7 S2 => ?_)
      replace H : Hp w w7 [.blk b3 46 [.int .i64 x1.from_, .int .i64 x1.to_, .int .i64 x1.rise, .int .i64 x1.weight], .own Al1 cl1 46 4 (List.map encReading ((l1.set (Int.toNat a1) ((⟨x1.to_, x1.from_, -x1.rise, x1.weight⟩ : Reading))))), .blk b1 24 [.int .i64 a0.points, .slice A_a0_readings a0.readings.length c_a0_readings], .blk b2 24 [.int .i64 a0.points, .slice Al1 l1.length cl1], .blk bk1 24 [.int .i64 a0.points, .slice Al1 l1.length cl1]] := H.stored 3 rfl S2
      replace R0 := H.ext
      refine LW.pure rfl rfl (RV.assign rfl) ?_
      refine LW.nil (hK7 _ _ ?_)
      refine CW.ret ?_
      obtain rfl := Option.some.inj F
      refine ⟨_, (ResOK.two ⟨_, rfl, run_loadVar_agg Tk24 (H.blk 3 rfl).cells (us := [.int .i64 a0.points, .slice Al1 l1.length cl1]) rfl rfl⟩ rfl), ?_⟩
      replace H := H.pick (L' := [.own Al1 cl1 46 4 (List.map encReading ((l1.set (Int.toNat a1) ((⟨x1.to_, x1.from_, -x1.rise, x1.weight⟩ : Reading)))))]) [1] (by decide) rfl
      replace R0 := H.ext
      exact ⟨Al1, cl1, (by first | rfl | (simp; done) | (simp; omega)), H⟩
    ·
      intro K8 hK8 jK17
      obtain ⟨r2, hr2, F⟩ := bnd_some F
      refine CW.draw [7] (fun _ => True) (.cons 0 1 (.cons 1 1 (.cons 2 1 (.cons 3 1 (.alt 4 (.cons 5 1 (.cons 6 0 (.cons 7 0 .nil))) (.cons 6 0 (.cons 4 0 (.cons 5 1 (.cons 7 0 .nil))))))))) mixed (by kernel_rfl) fun w8 E2 => ?_
      replace H := H.grow E2
      replace R0 := H.ext
      refine DW.fix rfl rfl rfl (fun _ EQ => RV.fieldAddr Tf24_0 rfl) ?_
      refine DW.fix rfl rfl rfl (fun _ EQ => RV.load1 Tk3 rfl (((H.grow EQ).blk 1 rfl).cells.off 0) rfl) ?_
      refine DW.fix rfl rfl rfl (fun _ EQ => RV.fieldAddr Tf24_1 rfl) ?_
      refine DW.fix rfl rfl rfl (fun _ EQ => RV.load1 Tk22 rfl (((H.grow EQ).blk 1 rfl).cells.off 1) rfl) ?_
      refine DW.alt ?_ ?_
      ·
        refine DW.sole rfl rfl rfl (OW.call Tc70 rfl (slices_Clone_Reading_ok (a0 := a0.readings) (h_a0_readings.ext R0) hr2) ?_)
        rintro _ w9 ⟨A8_0, c8_0, rfl, E3⟩
        refine ⟨_, rfl, fun _ => E3.ext, ModX.ext E3.ext, ?_⟩
        replace H : Hp w w9 [.own A8_0 c8_0 46 4 (List.map encReading r2), .blk b2 24 [.int .i64 0, .slice none 0 0], .blk b1 24 [.int .i64 a0.points, .slice A_a0_readings a0.readings.length c_a0_readings]] := H.append E3
        replace R0 := H.ext
        refine DW.fix rfl rfl rfl (fun _ EQ => RV.build (vs := [.int .i64 a0.points, .slice A8_0 r2.length c8_0]) (cs := [.int .i64 a0.points, .slice A8_0 r2.length c8_0]) rfl (fun _ => by kernel_rfl)) ?_
        refine DW.sole rfl rfl rfl (OW.alloc Tz24 fun b4 w10 N4 => ?_)
        refine ⟨fun _ => N4.ext, ModX.ext N4.ext, ?_⟩
        replace H := H.new N4 N4.blk
        replace R0 := H.ext
        refine DW.sole rfl rfl rfl (OW.store Tk24 rfl rfl (H.blk 0 rfl) (off := 0) (vs := [.int .i64 a0.points, .slice A8_0 r2.length c8_0]) rfl rfl rfl rfl rfl fun w11 S3 => ?_)
        refine ⟨fun h => absurd h (by decide), S3.modx trivial, ?_⟩
        replace H : Hp w w11 [.blk b4 24 [.int .i64 a0.points, .slice A8_0 r2.length c8_0], .own A8_0 c8_0 46 4 (List.map encReading r2), .blk b2 24 [.int .i64 0, .slice none 0 0], .blk b1 24 [.int .i64 a0.points, .slice A_a0_readings a0.readings.length c_a0_readings]] := H.stored 0 rfl S3
        replace R0 := H.ext
        replace H := H.pick (L' := [.own A8_0 c8_0 46 4 (List.map encReading r2), .blk b1 24 [.int .i64 a0.points, .slice A_a0_readings a0.readings.length c_a0_readings], .blk b2 24 [.int .i64 0, .slice none 0 0], .blk b4 24 [.int .i64 a0.points, .slice A8_0 r2.length c8_0]]) [1, 3, 2, 0] (by decide) rfl
        replace R0 := H.ext
        refine DW.nil (jK17 _ _ ⟨_, ?_, ⟨r2, b4, A8_0, c8_0, F, rfl, H⟩⟩)
        exact ⟨rfl, rfl, rfl, rfl, rfl, trivial⟩
      ·
        refine DW.sole rfl rfl rfl (OW.alloc Tz24 fun b5 w12 N5 => ?_)
        refine ⟨fun _ => N5.ext, ModX.ext N5.ext, ?_⟩
        replace H := H.new N5 N5.blk
        replace R0 := H.ext
        refine DW.sole rfl rfl rfl (OW.call Tc70 rfl (slices_Clone_Reading_ok (a0 := a0.readings) (h_a0_readings.ext R0) hr2) ?_)
        rintro _ w13 ⟨A9_0, c9_0, rfl, E4⟩
        refine ⟨_, rfl, fun _ => E4.ext, ModX.ext E4.ext, ?_⟩
        replace H : Hp w w13 [.own A9_0 c9_0 46 4 (List.map encReading r2), .blk b5 24 [.int .i64 0, .slice none 0 0], .blk b2 24 [.int .i64 0, .slice none 0 0], .blk b1 24 [.int .i64 a0.points, .slice A_a0_readings a0.readings.length c_a0_readings]] := H.append E4
        replace R0 := H.ext
        refine DW.fix rfl rfl rfl (fun _ EQ => RV.build (vs := [.int .i64 a0.points, .slice A9_0 r2.length c9_0]) (cs := [.int .i64 a0.points, .slice A9_0 r2.length c9_0]) rfl (fun _ => by kernel_rfl)) ?_
        refine DW.sole rfl rfl rfl (OW.store Tk24 rfl rfl (H.blk 1 rfl) (off := 0) (vs := [.int .i64 a0.points, .slice A9_0 r2.length c9_0]) rfl rfl rfl rfl rfl fun w14 S4 => ?_)
        refine ⟨fun h => absurd h (by decide), S4.modx trivial, ?_⟩
        replace H : Hp w w14 [.own A9_0 c9_0 46 4 (List.map encReading r2), .blk b5 24 [.int .i64 a0.points, .slice A9_0 r2.length c9_0], .blk b2 24 [.int .i64 0, .slice none 0 0], .blk b1 24 [.int .i64 a0.points, .slice A_a0_readings a0.readings.length c_a0_readings]] := H.stored 1 rfl S4
        replace R0 := H.ext
        replace H := H.pick (L' := [.own A9_0 c9_0 46 4 (List.map encReading r2), .blk b1 24 [.int .i64 a0.points, .slice A_a0_readings a0.readings.length c_a0_readings], .blk b2 24 [.int .i64 0, .slice none 0 0], .blk b5 24 [.int .i64 a0.points, .slice A9_0 r2.length c9_0]]) [0, 3, 2, 1] (by decide) rfl
        replace R0 := H.ext
        refine DW.nil (jK17 _ _ ⟨_, ?_, ⟨r2, b5, A9_0, c9_0, F, rfl, H⟩⟩)
        exact ⟨rfl, rfl, rfl, rfl, rfl, trivial⟩
  ·
    replace F := ite_n hp1 F
    have hq1 := dec_f hp1
    refine CW.condT rfl (not_t hq1) ?_
    refine CW.seq fun K9 hK9 => ?_
    refine CW.region ?_
    refine LW.pure rfl rfl (RV.build (vs := []) (cs := [.int .i64 0, .slice none 0 0]) rfl (fun _ => by kernel_rfl)) ?_
    refine LW.pure rfl rfl (RV.move rfl) ?_
    refine LW.go rfl rfl (OW.store Tk24 rfl rfl (H.blk 0 rfl) (off := 0) (vs := [.int .i64 0, .slice none 0 0]) rfl rfl rfl rfl rfl fun w15 S5 => ?_)
    replace H : Hp w w15 [.blk b2 24 [.int .i64 0, .slice none 0 0], .blk b1 24 [.int .i64 a0.points, .slice A_a0_readings a0.readings.length c_a0_readings]] := H.stored 0 rfl S5
    replace R0 := H.ext
    refine LW.pure rfl rfl (RV.assign rfl) ?_
    refine LW.nil (hK9 _ _ ?_)
    refine CW.ret ?_
    obtain rfl := Option.some.inj F
    refine ⟨_, (ResOK.two ⟨_, rfl, run_loadVar_agg Tk24 (H.blk 0 rfl).cells (us := [.int .i64 0, .slice none 0 0]) rfl rfl⟩ rfl), ?_⟩
    replace H := H.nilOwn 46 4
    replace R0 := H.ext
    replace H := H.pick (L' := [.own none 0 46 4 (List.map encReading (([] : List Reading)))]) [0] (by decide) rfl
    replace R0 := H.ext
    exact ⟨none, 0, (by first | rfl | (simp; done) | (simp; omega)), H⟩
set_option maxRecDepth 20000 in
set_option maxHeartbeats 1000000 in
theorem ref01_Turn_ok {a0 : Survey} {a1 : Int} {A_a0_readings : Option Addr} {c_a0_readings : Nat} {w : World} {res : Survey × Int} (h_a0_readings : Sl w A_a0_readings c_a0_readings 4 (a0.readings.map encReading)) (F : ref01_Turn a0 a1 = some res) : Calls Try.prog 50 #[.agg #[.int .i64 a0.points, .slice A_a0_readings a0.readings.length c_a0_readings], .int .i64 a1] w (fun e w' => ∃ (A0_readings : Option Addr) (c0_readings : Nat), e = .returned (.tuple #[.agg #[.int .i64 res.1.points, .slice A0_readings res.1.readings.length c0_readings], .int .i64 res.2]) ∧ Hp w w' [.own A0_readings c0_readings 46 4 (List.map encReading res.1.readings)]) := by
  refine calls_of_cw (args := [.agg #[.int .i64 a0.points, .slice A_a0_readings a0.readings.length c_a0_readings], .int .i64 a1]) Try.func50 rfl rfl rfl rfl ?_
  have H := Hp.start w
  have R0 := H.ext
  unfold ref01_Turn at F
  refine CW.seq fun K1 hK1 => ?_
  refine CW.region ?_
  refine LW.go rfl rfl (OW.box rfl fun b1 w1 N1 => ?_)
  replace H := H.new N1 N1.blk
  replace R0 := H.ext
  refine LW.go rfl rfl (OW.alloc Tz24 fun b2 w2 N2 => ?_)
  replace H := H.new N2 N2.blk
  replace R0 := H.ext
  refine LW.pure rfl rfl (RV.assign rfl) ?_
  refine LW.nil (hK1 _ _ ?_)
  refine CW.seq fun K2 hK2 => ?_
  refine CW.seq fun K3 hK3 => ?_
  obtain ⟨r1, hr1, F⟩ := bnd_some F
  refine CW.region ?_
  refine LW.pure rfl rfl (RV.loadA [.int .i64 a0.points, .slice A_a0_readings a0.readings.length c_a0_readings] Tk24 rfl (H.blk 1 rfl).cells rfl rfl) ?_
  refine LW.pure rfl rfl (RV.move rfl) ?_
  refine LW.go rfl rfl (OW.call Tc84 rfl (ref01_numbered_ok (a0 := a0) (a1 := a1) (h_a0_readings.ext R0) hr1) ?_)
  rintro _ w3 ⟨rfl, E1⟩
  refine ⟨_, rfl, ?_⟩
  replace H := H.grow E1
  replace R0 := H.ext
  refine LW.pure rfl rfl (RV.assign rfl) ?_
  refine LW.nil (hK3 _ _ ?_)
  refine CW.seq fun K4 hK4 => ?_
  refine CW.region ?_
  refine LW.pure rfl rfl (RV.move rfl) ?_
  refine LW.pure rfl rfl (RV.nei rfl rfl) ?_
  refine LW.nil (hK4 _ _ ?_)
  by_cases hp1 : r1 = 0
  ·
    replace F := ite_y hp1 F
    have hq1 := dec_t hp1
    refine CW.condF rfl (not_f hq1) ?_
    refine CW.skip (hK2 _ _ ?_)
    refine CW.seq fun K5 hK5 => ?_
    obtain ⟨r2, hr2, F⟩ := bnd_some F
    refine CW.region ?_
    refine LW.pure rfl rfl (RV.loadA [.int .i64 a0.points, .slice A_a0_readings a0.readings.length c_a0_readings] Tk24 rfl (H.blk 1 rfl).cells rfl rfl) ?_
    refine LW.go rfl rfl (OW.call Tc46 rfl (ref01_Copy_ok (a0 := a0) (h_a0_readings.ext R0) hr2) ?_)
    rintro _ w4 ⟨A6_0_readings, c6_0_readings, rfl, E2⟩
    refine ⟨_, rfl, ?_⟩
    replace H : Hp w w4 [.own A6_0_readings c6_0_readings 46 4 (List.map encReading r2.readings), .blk b2 24 [.int .i64 0, .slice none 0 0], .blk b1 24 [.int .i64 a0.points, .slice A_a0_readings a0.readings.length c_a0_readings]] := H.append E2
    replace R0 := H.ext
    refine LW.go rfl rfl (OW.alloc Tz24 fun b3 w5 N3 => ?_)
    replace H := H.new N3 N3.blk
    replace R0 := H.ext
    refine LW.go rfl rfl (OW.store Tk24 rfl rfl (H.blk 0 rfl) (off := 0) (vs := [.int .i64 r2.points, .slice A6_0_readings r2.readings.length c6_0_readings]) rfl rfl rfl rfl rfl fun w6 S1 => ?_)
    replace H : Hp w w6 [.blk b3 24 [.int .i64 r2.points, .slice A6_0_readings r2.readings.length c6_0_readings], .own A6_0_readings c6_0_readings 46 4 (List.map encReading r2.readings), .blk b2 24 [.int .i64 0, .slice none 0 0], .blk b1 24 [.int .i64 a0.points, .slice A_a0_readings a0.readings.length c_a0_readings]] := H.stored 0 rfl S1
    replace R0 := H.ext
    refine LW.nil (hK5 _ _ ?_)
    refine CW.seq fun K6 hK6 => ?_
    obtain ⟨x1, hbx1, hx1, F⟩ := ix_some F
    refine CW.region ?_
    refine LW.pure rfl rfl (RV.fieldAddr Tf24_1 rfl) ?_
    refine LW.pure rfl rfl (RV.load1 Tk22 rfl ((H.blk 3 rfl).cells.off 1) rfl) ?_
    refine LW.pure rfl rfl (RV.move rfl) ?_
    refine LW.pure rfl rfl (RV.indexAddr Ts22 rfl rfl hbx1 (h_a0_readings.addr_ hx1)) ?_
    refine LW.pure rfl rfl (RV.loadA [.int .i64 x1.from_, .int .i64 x1.to_, .int .i64 x1.rise, .int .i64 x1.weight] Tk46 rfl ((h_a0_readings.at_ hx1).ext R0) rfl rfl) ?_
    refine LW.go rfl rfl (OW.alloc Tz46 fun b4 w7 N4 => ?_)
    replace H := H.new N4 N4.blk
    replace R0 := H.ext
    refine LW.go rfl rfl (OW.store Tk46 rfl rfl (H.blk 0 rfl) (off := 0) (vs := [.int .i64 x1.from_, .int .i64 x1.to_, .int .i64 x1.rise, .int .i64 x1.weight]) rfl rfl rfl rfl rfl fun w8 S2 => ?_)
    replace H : Hp w w8 [.blk b4 46 [.int .i64 x1.from_, .int .i64 x1.to_, .int .i64 x1.rise, .int .i64 x1.weight], .blk b3 24 [.int .i64 r2.points, .slice A6_0_readings r2.readings.length c6_0_readings], .own A6_0_readings c6_0_readings 46 4 (List.map encReading r2.readings), .blk b2 24 [.int .i64 0, .slice none 0 0], .blk b1 24 [.int .i64 a0.points, .slice A_a0_readings a0.readings.length c_a0_readings]] := H.stored 0 rfl S2
    replace R0 := H.ext
    refine LW.nil (hK6 _ _ ?_)
    refine CW.seq fun K7 hK7 => ?_
    obtain ⟨hg1, F⟩ := gd_some F
    obtain ⟨x2, hbx2, hx2, F⟩ := ix_some F
    refine CW.region ?_
    refine LW.pure rfl rfl (RV.fieldAddr Tf24_1 rfl) ?_
    refine LW.pure rfl rfl (RV.load1 Tk22 rfl ((H.blk 1 rfl).cells.off 1) rfl) ?_
    refine LW.pure rfl rfl (RV.move rfl) ?_
    refine LW.pure rfl rfl (RV.fieldAddr Tf46_1 rfl) ?_
    refine LW.pure rfl rfl (RV.load1 Tk3 rfl ((H.blk 0 rfl).cells.off 1) rfl) ?_
    refine LW.pure rfl rfl (RV.fieldAddr Tf46_0 rfl) ?_
    refine LW.pure rfl rfl (RV.load1 Tk3 rfl ((H.blk 0 rfl).cells.off 0) rfl) ?_
    refine LW.pure rfl rfl (RV.fieldAddr Tf46_2 rfl) ?_
    refine LW.pure rfl rfl (RV.load1 Tk3 rfl ((H.blk 0 rfl).cells.off 2) rfl) ?_
    refine LW.pure rfl rfl (RV.neg rfl hg1) ?_
    refine LW.pure rfl rfl (RV.fieldAddr Tf46_3 rfl) ?_
    refine LW.pure rfl rfl (RV.load1 Tk3 rfl ((H.blk 0 rfl).cells.off 3) rfl) ?_
    refine LW.pure rfl rfl (RV.build (vs := [.int .i64 x1.to_, .int .i64 x1.from_, .int .i64 (-x1.rise), .int .i64 x1.weight]) (cs := [.int .i64 x1.to_, .int .i64 x1.from_, .int .i64 (-x1.rise), .int .i64 x1.weight]) rfl (fun _ => by kernel_rfl)) ?_
    refine LW.pure rfl rfl (RV.indexAddr Ts22 rfl rfl hbx2 ((H.own 2 rfl).sl.addr_ hx2)) ?_
    refine LW.go rfl rfl (OW.storeO (enc := encReading) (vs := [.int .i64 x1.to_, .int .i64 x1.from_, .int .i64 (-x1.rise), .int .i64 x1.weight]) 0 ((⟨x1.to_, x1.from_, -x1.rise, x1.weight⟩ : Reading)) Tk46 rfl rfl (H.own 2 rfl) (fun _ => rfl) rfl hx2 rfl rfl (by decide) rfl rfl fun w9 M1 O1 => ?_)
    replace H : Hp w w9 [.blk b4 46 [.int .i64 x1.from_, .int .i64 x1.to_, .int .i64 x1.rise, .int .i64 x1.weight], .blk b3 24 [.int .i64 r2.points, .slice A6_0_readings r2.readings.length c6_0_readings], .own A6_0_readings c6_0_readings 46 4 (List.map encReading ((r2.readings.set (Int.toNat a1) ((⟨x1.to_, x1.from_, -x1.rise, x1.weight⟩ : Reading))))), .blk b2 24 [.int .i64 0, .slice none 0 0], .blk b1 24 [.int .i64 a0.points, .slice A_a0_readings a0.readings.length c_a0_readings]] := H.mod 2 rfl M1 O1 (.inl rfl)
    replace R0 := H.ext
    refine LW.nil (hK7 _ _ ?_)
    refine CW.seq fun K8 hK8 => ?_
    refine CW.region ?_
    refine LW.pure rfl rfl (RV.loadA [.int .i64 r2.points, .slice A6_0_readings r2.readings.length c6_0_readings] Tk24 rfl (H.blk 1 rfl).cells rfl rfl) ?_
    refine LW.go rfl rfl (OW.store Tk24 rfl rfl (H.blk 3 rfl) (off := 0) (vs := [.int .i64 r2.points, .slice A6_0_readings r2.readings.length c6_0_readings]) rfl rfl rfl rfl rfl fun w10 S3 => ?_)
    replace H : Hp w w10 [.blk b4 46 [.int .i64 x1.from_, .int .i64 x1.to_, .int .i64 x1.rise, .int .i64 x1.weight], .blk b3 24 [.int .i64 r2.points, .slice A6_0_readings r2.readings.length c6_0_readings], .own A6_0_readings c6_0_readings 46 4 (List.map encReading ((r2.readings.set (Int.toNat a1) ((⟨x1.to_, x1.from_, -x1.rise, x1.weight⟩ : Reading))))), .blk b2 24 [.int .i64 r2.points, .slice A6_0_readings r2.readings.length c6_0_readings], .blk b1 24 [.int .i64 a0.points, .slice A_a0_readings a0.readings.length c_a0_readings]] := H.stored 3 rfl S3
    replace R0 := H.ext
    refine LW.pure rfl rfl (RV.assign rfl) ?_
    refine LW.nil (hK8 _ _ ?_)
    refine CW.ret ?_
    obtain rfl := Option.some.inj F
    refine ⟨_, (ResOK.two ⟨_, rfl, run_loadVar_agg Tk24 (H.blk 3 rfl).cells (us := [.int .i64 r2.points, .slice A6_0_readings r2.readings.length c6_0_readings]) rfl rfl⟩ rfl), ?_⟩
    replace H := H.pick (L' := [.own A6_0_readings c6_0_readings 46 4 (List.map encReading ((r2.readings.set (Int.toNat a1) ((⟨x1.to_, x1.from_, -x1.rise, x1.weight⟩ : Reading)))))]) [2] (by decide) rfl
    replace R0 := H.ext
    exact ⟨A6_0_readings, c6_0_readings, (by first | rfl | (simp; done) | (simp; omega)), H⟩
  ·
    replace F := ite_n hp1 F
    have hq1 := dec_f hp1
    refine CW.condT rfl (not_t hq1) ?_
    refine CW.seq fun K9 hK9 => ?_
    refine CW.region ?_
    refine LW.pure rfl rfl (RV.build (vs := []) (cs := [.int .i64 0, .slice none 0 0]) rfl (fun _ => by kernel_rfl)) ?_
    refine LW.pure rfl rfl (RV.move rfl) ?_
    refine LW.go rfl rfl (OW.store Tk24 rfl rfl (H.blk 0 rfl) (off := 0) (vs := [.int .i64 0, .slice none 0 0]) rfl rfl rfl rfl rfl fun w11 S4 => ?_)
    replace H : Hp w w11 [.blk b2 24 [.int .i64 0, .slice none 0 0], .blk b1 24 [.int .i64 a0.points, .slice A_a0_readings a0.readings.length c_a0_readings]] := H.stored 0 rfl S4
    replace R0 := H.ext
    refine LW.pure rfl rfl (RV.assign rfl) ?_
    refine LW.nil (hK9 _ _ ?_)
    refine CW.ret ?_
    obtain rfl := Option.some.inj F
    refine ⟨_, (ResOK.two ⟨_, rfl, run_loadVar_agg Tk24 (H.blk 0 rfl).cells (us := [.int .i64 0, .slice none 0 0]) rfl rfl⟩ rfl), ?_⟩
    replace H := H.nilOwn 46 4
    replace R0 := H.ext
    replace H := H.pick (L' := [.own none 0 46 4 (List.map encReading (([] : List Reading)))]) [0] (by decide) rfl
    replace R0 := H.ext
    exact ⟨none, 0, (by first | rfl | (simp; done) | (simp; omega)), H⟩
set_option maxRecDepth 20000 in
set_option maxHeartbeats 1000000 in
theorem law01_LevelChanges_ok {a0 : Survey} {a1 : Int} {A_a0_readings : Option Addr} {c_a0_readings : Nat} {w : World} {res : Bool} (h_a0_readings : Sl w A_a0_readings c_a0_readings 4 (a0.readings.map encReading)) (F : law01_LevelChanges a0 a1 = some res) : Calls Try.prog 12 #[.agg #[.int .i64 a0.points, .slice A_a0_readings a0.readings.length c_a0_readings], .int .i64 a1] w (Rt w (.bool res)) := by
  refine calls_of_cw (args := [.agg #[.int .i64 a0.points, .slice A_a0_readings a0.readings.length c_a0_readings], .int .i64 a1]) Try.func12 rfl rfl rfl rfl ?_
  have H := Hp.start w
  have R0 := H.ext
  unfold law01_LevelChanges at F
  refine CW.seq fun K1 hK1 => ?_
  refine CW.region ?_
  refine LW.go rfl rfl (OW.box rfl fun b1 w1 N1 => ?_)
  replace H := H.new N1 N1.blk
  replace R0 := H.ext
  refine LW.pure rfl rfl (RV.assign rfl) ?_
  refine LW.nil (hK1 _ _ ?_)
  refine CW.seq fun K2 hK2 => ?_
  refine CW.seq fun K3 hK3 => ?_
  obtain ⟨r8, hr8, F⟩ := bnd_some F
  refine CW.region ?_
  refine LW.pure rfl rfl (RV.loadA [.int .i64 a0.points, .slice A_a0_readings a0.readings.length c_a0_readings] Tk24 rfl (H.blk 0 rfl).cells rfl rfl) ?_
  refine LW.go rfl rfl (OW.call Tc17 rfl (law01_Long_ok (a0 := a0) (h_a0_readings.ext R0) hr8) ?_)
  rintro _ w2 ⟨rfl, E1⟩
  refine ⟨_, rfl, ?_⟩
  replace H := H.grow E1
  replace R0 := H.ext
  refine LW.nil (hK3 _ _ ?_)
  by_cases hp1 : r8 = true
  ·
    replace F := ite_y hp1 F
    have hq1 : r8 = true := hp1
    refine CW.condT rfl hq1 ?_
    refine CW.seq fun K4 hK4 => ?_
    obtain ⟨r9, hr9, F⟩ := bnd_some F
    refine CW.region ?_
    refine LW.go rfl rfl (OW.call Tc18 rfl (law01_known_ok hr9) ?_)
    rintro _ w3 ⟨rfl, E2⟩
    refine ⟨_, rfl, ?_⟩
    replace H := H.grow E2
    replace R0 := H.ext
    refine LW.pure rfl rfl (RV.assign rfl) ?_
    refine LW.nil (hK4 _ _ ?_)
    refine CW.ret ?_
    obtain rfl := Option.some.inj F
    refine ⟨_, (ResOK.one rfl), ?_⟩
    refine ⟨(by first | rfl | simp), R0⟩
  ·
    replace F := ite_n hp1 F
    have hq1 : r8 = false := raw_f hp1
    refine CW.condF rfl hq1 ?_
    refine CW.skip (hK2 _ _ ?_)
    refine CW.seq fun K5 hK5 => ?_
    obtain ⟨r1, hr1, F⟩ := bnd_some F
    refine CW.region ?_
    refine LW.pure rfl rfl (RV.loadA [.int .i64 a0.points, .slice A_a0_readings a0.readings.length c_a0_readings] Tk24 rfl (H.blk 0 rfl).cells rfl rfl) ?_
    refine LW.go rfl rfl (OW.call Tc46 rfl (ref01_Copy_ok (a0 := a0) (h_a0_readings.ext R0) hr1) ?_)
    rintro _ w4 ⟨A22_0_readings, c22_0_readings, rfl, E3⟩
    refine ⟨_, rfl, ?_⟩
    replace H : Hp w w4 [.own A22_0_readings c22_0_readings 46 4 (List.map encReading r1.readings), .blk b1 24 [.int .i64 a0.points, .slice A_a0_readings a0.readings.length c_a0_readings]] := H.append E3
    replace R0 := H.ext
    refine LW.go rfl rfl (OW.alloc Tz24 fun b2 w5 N2 => ?_)
    replace H := H.new N2 N2.blk
    replace R0 := H.ext
    refine LW.go rfl rfl (OW.store Tk24 rfl rfl (H.blk 0 rfl) (off := 0) (vs := [.int .i64 r1.points, .slice A22_0_readings r1.readings.length c22_0_readings]) rfl rfl rfl rfl rfl fun w6 S1 => ?_)
    replace H : Hp w w6 [.blk b2 24 [.int .i64 r1.points, .slice A22_0_readings r1.readings.length c22_0_readings], .own A22_0_readings c22_0_readings 46 4 (List.map encReading r1.readings), .blk b1 24 [.int .i64 a0.points, .slice A_a0_readings a0.readings.length c_a0_readings]] := H.stored 0 rfl S1
    replace R0 := H.ext
    refine LW.nil (hK5 _ _ ?_)
    refine CW.seq fun K6 hK6 => ?_
    obtain ⟨r5, hr5, F⟩ := bnd_some F
    refine CW.region ?_
    refine LW.pure rfl rfl (RV.loadA [.int .i64 r1.points, .slice A22_0_readings r1.readings.length c22_0_readings] Tk24 rfl (H.blk 0 rfl).cells rfl rfl) ?_
    refine LW.pure rfl rfl (RV.move rfl) ?_
    refine LW.go rfl rfl (OW.call Tc47 rfl (level_Without_ok (a0 := r1) (a1 := a1) (H.own 1 rfl).sl hr5) ?_)
    rintro _ w7 ⟨A24_0_readings, c24_0_readings, rfl, E4⟩
    refine ⟨_, rfl, ?_⟩
    replace H : Hp w w7 [.own A24_0_readings c24_0_readings 46 4 (List.map encReading r5.1.readings), .blk b2 24 [.int .i64 r1.points, .slice A22_0_readings r1.readings.length c22_0_readings], .own A22_0_readings c22_0_readings 46 4 (List.map encReading r1.readings), .blk b1 24 [.int .i64 a0.points, .slice A_a0_readings a0.readings.length c_a0_readings]] := H.append E4
    replace R0 := H.ext
    refine LW.pure rfl rfl (RV.move rfl) ?_
    refine LW.pure rfl rfl (RV.extract rfl rfl) ?_
    refine LW.pure rfl rfl (RV.extract rfl rfl) ?_
    refine LW.go rfl rfl (OW.alloc Tz24 fun b3 w8 N3 => ?_)
    replace H := H.new N3 N3.blk
    replace R0 := H.ext
    refine LW.go rfl rfl (OW.store Tk24 rfl rfl (H.blk 0 rfl) (off := 0) (vs := [.int .i64 r5.1.points, .slice A24_0_readings r5.1.readings.length c24_0_readings]) rfl rfl rfl rfl rfl fun w9 S2 => ?_)
    replace H : Hp w w9 [.blk b3 24 [.int .i64 r5.1.points, .slice A24_0_readings r5.1.readings.length c24_0_readings], .own A24_0_readings c24_0_readings 46 4 (List.map encReading r5.1.readings), .blk b2 24 [.int .i64 r1.points, .slice A22_0_readings r1.readings.length c22_0_readings], .own A22_0_readings c22_0_readings 46 4 (List.map encReading r1.readings), .blk b1 24 [.int .i64 a0.points, .slice A_a0_readings a0.readings.length c_a0_readings]] := H.stored 0 rfl S2
    replace R0 := H.ext
    refine LW.pure rfl rfl (RV.assign rfl) ?_
    refine LW.nil (hK6 _ _ ?_)
    refine CW.seq fun K7 hK7 => ?_
    obtain ⟨r10, hr10, F⟩ := bnd_some F
    refine CW.region ?_
    refine LW.pure rfl rfl (RV.loadA [.int .i64 a0.points, .slice A_a0_readings a0.readings.length c_a0_readings] Tk24 rfl (H.blk 4 rfl).cells rfl rfl) ?_
    refine LW.pure rfl rfl (RV.move rfl) ?_
    refine LW.go rfl rfl (OW.call Tc48 rfl (ref01_Without_ok (a0 := a0) (a1 := a1) (h_a0_readings.ext R0) hr10) ?_)
    rintro _ w10 ⟨A26_0_readings, c26_0_readings, rfl, E5⟩
    refine ⟨_, rfl, ?_⟩
    replace H : Hp w w10 [.own A26_0_readings c26_0_readings 46 4 (List.map encReading r10.1.readings), .blk b3 24 [.int .i64 r5.1.points, .slice A24_0_readings r5.1.readings.length c24_0_readings], .own A24_0_readings c24_0_readings 46 4 (List.map encReading r5.1.readings), .blk b2 24 [.int .i64 r1.points, .slice A22_0_readings r1.readings.length c22_0_readings], .own A22_0_readings c22_0_readings 46 4 (List.map encReading r1.readings), .blk b1 24 [.int .i64 a0.points, .slice A_a0_readings a0.readings.length c_a0_readings]] := H.append E5
    replace R0 := H.ext
    refine LW.pure rfl rfl (RV.move rfl) ?_
    refine LW.pure rfl rfl (RV.extract rfl rfl) ?_
    refine LW.pure rfl rfl (RV.extract rfl rfl) ?_
    refine LW.go rfl rfl (OW.alloc Tz24 fun b4 w11 N4 => ?_)
    replace H := H.new N4 N4.blk
    replace R0 := H.ext
    refine LW.go rfl rfl (OW.store Tk24 rfl rfl (H.blk 0 rfl) (off := 0) (vs := [.int .i64 r10.1.points, .slice A26_0_readings r10.1.readings.length c26_0_readings]) rfl rfl rfl rfl rfl fun w12 S3 => ?_)
    replace H : Hp w w12 [.blk b4 24 [.int .i64 r10.1.points, .slice A26_0_readings r10.1.readings.length c26_0_readings], .own A26_0_readings c26_0_readings 46 4 (List.map encReading r10.1.readings), .blk b3 24 [.int .i64 r5.1.points, .slice A24_0_readings r5.1.readings.length c24_0_readings], .own A24_0_readings c24_0_readings 46 4 (List.map encReading r5.1.readings), .blk b2 24 [.int .i64 r1.points, .slice A22_0_readings r1.readings.length c22_0_readings], .own A22_0_readings c22_0_readings 46 4 (List.map encReading r1.readings), .blk b1 24 [.int .i64 a0.points, .slice A_a0_readings a0.readings.length c_a0_readings]] := H.stored 0 rfl S3
    replace R0 := H.ext
    refine LW.pure rfl rfl (RV.assign rfl) ?_
    refine LW.nil (hK7 _ _ ?_)
    refine CW.seq fun K8 hK8 => ?_
    obtain ⟨r4, hr4, F⟩ := bnd_some F
    refine CW.region ?_
    refine LW.pure rfl rfl (RV.loadA [.int .i64 r1.points, .slice A22_0_readings r1.readings.length c22_0_readings] Tk24 rfl (H.blk 4 rfl).cells rfl rfl) ?_
    refine LW.pure rfl rfl (RV.move rfl) ?_
    refine LW.go rfl rfl (OW.call Tc49 rfl (level_Turn_ok (a0 := r1) (a1 := a1) (H.own 5 rfl).sl hr4) ?_)
    rintro _ w13 ⟨A28_0_readings, c28_0_readings, rfl, E6⟩
    refine ⟨_, rfl, ?_⟩
    replace H : Hp w w13 [.own A28_0_readings c28_0_readings 46 4 (List.map encReading r4.1.readings), .blk b4 24 [.int .i64 r10.1.points, .slice A26_0_readings r10.1.readings.length c26_0_readings], .own A26_0_readings c26_0_readings 46 4 (List.map encReading r10.1.readings), .blk b3 24 [.int .i64 r5.1.points, .slice A24_0_readings r5.1.readings.length c24_0_readings], .own A24_0_readings c24_0_readings 46 4 (List.map encReading r5.1.readings), .blk b2 24 [.int .i64 r1.points, .slice A22_0_readings r1.readings.length c22_0_readings], .own A22_0_readings c22_0_readings 46 4 (List.map encReading r1.readings), .blk b1 24 [.int .i64 a0.points, .slice A_a0_readings a0.readings.length c_a0_readings]] := H.append E6
    replace R0 := H.ext
    refine LW.pure rfl rfl (RV.move rfl) ?_
    refine LW.pure rfl rfl (RV.extract rfl rfl) ?_
    refine LW.pure rfl rfl (RV.extract rfl rfl) ?_
    refine LW.go rfl rfl (OW.alloc Tz24 fun b5 w14 N5 => ?_)
    replace H := H.new N5 N5.blk
    replace R0 := H.ext
    refine LW.go rfl rfl (OW.store Tk24 rfl rfl (H.blk 0 rfl) (off := 0) (vs := [.int .i64 r4.1.points, .slice A28_0_readings r4.1.readings.length c28_0_readings]) rfl rfl rfl rfl rfl fun w15 S4 => ?_)
    replace H : Hp w w15 [.blk b5 24 [.int .i64 r4.1.points, .slice A28_0_readings r4.1.readings.length c28_0_readings], .own A28_0_readings c28_0_readings 46 4 (List.map encReading r4.1.readings), .blk b4 24 [.int .i64 r10.1.points, .slice A26_0_readings r10.1.readings.length c26_0_readings], .own A26_0_readings c26_0_readings 46 4 (List.map encReading r10.1.readings), .blk b3 24 [.int .i64 r5.1.points, .slice A24_0_readings r5.1.readings.length c24_0_readings], .own A24_0_readings c24_0_readings 46 4 (List.map encReading r5.1.readings), .blk b2 24 [.int .i64 r1.points, .slice A22_0_readings r1.readings.length c22_0_readings], .own A22_0_readings c22_0_readings 46 4 (List.map encReading r1.readings), .blk b1 24 [.int .i64 a0.points, .slice A_a0_readings a0.readings.length c_a0_readings]] := H.stored 0 rfl S4
    replace R0 := H.ext
    refine LW.pure rfl rfl (RV.assign rfl) ?_
    refine LW.nil (hK8 _ _ ?_)
    refine CW.seq fun K9 hK9 => ?_
    obtain ⟨r11, hr11, F⟩ := bnd_some F
    refine CW.region ?_
    refine LW.pure rfl rfl (RV.loadA [.int .i64 a0.points, .slice A_a0_readings a0.readings.length c_a0_readings] Tk24 rfl (H.blk 8 rfl).cells rfl rfl) ?_
    refine LW.pure rfl rfl (RV.move rfl) ?_
    refine LW.go rfl rfl (OW.call Tc50 rfl (ref01_Turn_ok (a0 := a0) (a1 := a1) (h_a0_readings.ext R0) hr11) ?_)
    rintro _ w16 ⟨A30_0_readings, c30_0_readings, rfl, E7⟩
    refine ⟨_, rfl, ?_⟩
    replace H : Hp w w16 [.own A30_0_readings c30_0_readings 46 4 (List.map encReading r11.1.readings), .blk b5 24 [.int .i64 r4.1.points, .slice A28_0_readings r4.1.readings.length c28_0_readings], .own A28_0_readings c28_0_readings 46 4 (List.map encReading r4.1.readings), .blk b4 24 [.int .i64 r10.1.points, .slice A26_0_readings r10.1.readings.length c26_0_readings], .own A26_0_readings c26_0_readings 46 4 (List.map encReading r10.1.readings), .blk b3 24 [.int .i64 r5.1.points, .slice A24_0_readings r5.1.readings.length c24_0_readings], .own A24_0_readings c24_0_readings 46 4 (List.map encReading r5.1.readings), .blk b2 24 [.int .i64 r1.points, .slice A22_0_readings r1.readings.length c22_0_readings], .own A22_0_readings c22_0_readings 46 4 (List.map encReading r1.readings), .blk b1 24 [.int .i64 a0.points, .slice A_a0_readings a0.readings.length c_a0_readings]] := H.append E7
    replace R0 := H.ext
    refine LW.pure rfl rfl (RV.move rfl) ?_
    refine LW.pure rfl rfl (RV.extract rfl rfl) ?_
    refine LW.pure rfl rfl (RV.extract rfl rfl) ?_
    refine LW.go rfl rfl (OW.alloc Tz24 fun b6 w17 N6 => ?_)
    replace H := H.new N6 N6.blk
    replace R0 := H.ext
    refine LW.go rfl rfl (OW.store Tk24 rfl rfl (H.blk 0 rfl) (off := 0) (vs := [.int .i64 r11.1.points, .slice A30_0_readings r11.1.readings.length c30_0_readings]) rfl rfl rfl rfl rfl fun w18 S5 => ?_)
    replace H : Hp w w18 [.blk b6 24 [.int .i64 r11.1.points, .slice A30_0_readings r11.1.readings.length c30_0_readings], .own A30_0_readings c30_0_readings 46 4 (List.map encReading r11.1.readings), .blk b5 24 [.int .i64 r4.1.points, .slice A28_0_readings r4.1.readings.length c28_0_readings], .own A28_0_readings c28_0_readings 46 4 (List.map encReading r4.1.readings), .blk b4 24 [.int .i64 r10.1.points, .slice A26_0_readings r10.1.readings.length c26_0_readings], .own A26_0_readings c26_0_readings 46 4 (List.map encReading r10.1.readings), .blk b3 24 [.int .i64 r5.1.points, .slice A24_0_readings r5.1.readings.length c24_0_readings], .own A24_0_readings c24_0_readings 46 4 (List.map encReading r5.1.readings), .blk b2 24 [.int .i64 r1.points, .slice A22_0_readings r1.readings.length c22_0_readings], .own A22_0_readings c22_0_readings 46 4 (List.map encReading r1.readings), .blk b1 24 [.int .i64 a0.points, .slice A_a0_readings a0.readings.length c_a0_readings]] := H.stored 0 rfl S5
    replace R0 := H.ext
    refine LW.pure rfl rfl (RV.assign rfl) ?_
    refine LW.nil (hK9 _ _ ?_)
    refine CW.seq fun K10 hK10 => ?_
    refine CW.seqJ (fun ρ wl1 => (∃ (t67_1 : Bool), law01_LevelChanges_k4 a0 a1 r1 r5 r4 t67_1 = some res ∧ ρ = [(1, .int .i64 a1), (2, .pointer (some (⟨b1, 0, none⟩))), (4, .bool false), (5, .pointer (some (⟨b2, 0, none⟩))), (6, .pointer (some (⟨b3, 0, none⟩))), (10, .pointer (some (⟨b5, 0, none⟩))), (11, .int .i64 r4.2), (67, .bool t67_1)] ∧ Hp w wl1 [.own A22_0_readings c22_0_readings 46 4 (List.map encReading r1.readings), .own A24_0_readings c24_0_readings 46 4 (List.map encReading r5.1.readings), .own A28_0_readings c28_0_readings 46 4 (List.map encReading r4.1.readings), .blk b1 24 [.int .i64 a0.points, .slice A_a0_readings a0.readings.length c_a0_readings], .blk b2 24 [.int .i64 r1.points, .slice A22_0_readings r1.readings.length c22_0_readings], .blk b3 24 [.int .i64 r5.1.points, .slice A24_0_readings r5.1.readings.length c24_0_readings], .blk b5 24 [.int .i64 r4.1.points, .slice A28_0_readings r4.1.readings.length c28_0_readings]])) ?_ ?_
    ·
      rintro _ wl1 ⟨t67_1, F, rfl, H⟩
      have R0 := H.ext
      unfold law01_LevelChanges_k4 at F
      by_cases hp2 : t67_1 = true
      ·
        replace F := ite_y hp2 F
        have hq2 : t67_1 = true := hp2
        refine CW.condT rfl hq2 ?_
        refine CW.seq fun K11 hK11 => ?_
        refine CW.region ?_
        refine LW.pure rfl rfl (RV.assign rfl) ?_
        refine LW.nil (hK11 _ _ ?_)
        refine CW.ret ?_
        obtain rfl := Option.some.inj F
        refine ⟨_, (ResOK.one rfl), ?_⟩
        refine ⟨(by first | rfl | simp), R0⟩
      ·
        replace F := ite_n hp2 F
        have hq2 : t67_1 = false := raw_f hp2
        refine CW.condF rfl hq2 ?_
        refine CW.skip (hK10 _ _ ?_)
        refine CW.seq fun K12 hK12 => ?_
        obtain ⟨r6, hr6, F⟩ := bnd_some F
        refine CW.region ?_
        refine LW.pure rfl rfl (RV.loadA [.int .i64 r4.1.points, .slice A28_0_readings r4.1.readings.length c28_0_readings] Tk24 rfl (H.blk 6 rfl).cells rfl rfl) ?_
        refine LW.pure rfl rfl (RV.move rfl) ?_
        refine LW.go rfl rfl (OW.call Tc49 rfl (level_Turn_ok (a0 := r4.1) (a1 := a1) (H.own 2 rfl).sl hr6) ?_)
        rintro _ w19 ⟨A34_0_readings, c34_0_readings, rfl, E8⟩
        refine ⟨_, rfl, ?_⟩
        replace H : Hp w w19 [.own A34_0_readings c34_0_readings 46 4 (List.map encReading r6.1.readings), .own A22_0_readings c22_0_readings 46 4 (List.map encReading r1.readings), .own A24_0_readings c24_0_readings 46 4 (List.map encReading r5.1.readings), .own A28_0_readings c28_0_readings 46 4 (List.map encReading r4.1.readings), .blk b1 24 [.int .i64 a0.points, .slice A_a0_readings a0.readings.length c_a0_readings], .blk b2 24 [.int .i64 r1.points, .slice A22_0_readings r1.readings.length c22_0_readings], .blk b3 24 [.int .i64 r5.1.points, .slice A24_0_readings r5.1.readings.length c24_0_readings], .blk b5 24 [.int .i64 r4.1.points, .slice A28_0_readings r4.1.readings.length c28_0_readings]] := H.append E8
        replace R0 := H.ext
        refine LW.pure rfl rfl (RV.move rfl) ?_
        refine LW.pure rfl rfl (RV.extract rfl rfl) ?_
        refine LW.pure rfl rfl (RV.extract rfl rfl) ?_
        refine LW.go rfl rfl (OW.alloc Tz24 fun b7 w20 N7 => ?_)
        replace H := H.new N7 N7.blk
        replace R0 := H.ext
        refine LW.go rfl rfl (OW.store Tk24 rfl rfl (H.blk 0 rfl) (off := 0) (vs := [.int .i64 r6.1.points, .slice A34_0_readings r6.1.readings.length c34_0_readings]) rfl rfl rfl rfl rfl fun w21 S6 => ?_)
        replace H : Hp w w21 [.blk b7 24 [.int .i64 r6.1.points, .slice A34_0_readings r6.1.readings.length c34_0_readings], .own A34_0_readings c34_0_readings 46 4 (List.map encReading r6.1.readings), .own A22_0_readings c22_0_readings 46 4 (List.map encReading r1.readings), .own A24_0_readings c24_0_readings 46 4 (List.map encReading r5.1.readings), .own A28_0_readings c28_0_readings 46 4 (List.map encReading r4.1.readings), .blk b1 24 [.int .i64 a0.points, .slice A_a0_readings a0.readings.length c_a0_readings], .blk b2 24 [.int .i64 r1.points, .slice A22_0_readings r1.readings.length c22_0_readings], .blk b3 24 [.int .i64 r5.1.points, .slice A24_0_readings r5.1.readings.length c24_0_readings], .blk b5 24 [.int .i64 r4.1.points, .slice A28_0_readings r4.1.readings.length c28_0_readings]] := H.stored 0 rfl S6
        replace R0 := H.ext
        refine LW.pure rfl rfl (RV.assign rfl) ?_
        refine LW.nil (hK12 _ _ ?_)
        refine CW.seqJ (fun ρ wl2 => (∃ (t16_1 : Bool), law01_LevelChanges_k3 a0 r1 r5 r4 t16_1 = some res ∧ ρ = [(2, .pointer (some (⟨b1, 0, none⟩))), (4, .bool false), (5, .pointer (some (⟨b2, 0, none⟩))), (6, .pointer (some (⟨b3, 0, none⟩))), (10, .pointer (some (⟨b5, 0, none⟩))), (16, .bool t16_1)] ∧ Hp w wl2 [.own A22_0_readings c22_0_readings 46 4 (List.map encReading r1.readings), .own A24_0_readings c24_0_readings 46 4 (List.map encReading r5.1.readings), .own A28_0_readings c28_0_readings 46 4 (List.map encReading r4.1.readings), .blk b1 24 [.int .i64 a0.points, .slice A_a0_readings a0.readings.length c_a0_readings], .blk b2 24 [.int .i64 r1.points, .slice A22_0_readings r1.readings.length c22_0_readings], .blk b3 24 [.int .i64 r5.1.points, .slice A24_0_readings r5.1.readings.length c24_0_readings], .blk b5 24 [.int .i64 r4.1.points, .slice A28_0_readings r4.1.readings.length c28_0_readings]])) ?_ ?_
        ·
          rintro _ wl2 ⟨t16_1, F, rfl, H⟩
          have R0 := H.ext
          unfold law01_LevelChanges_k3 at F
          refine CW.seqJ (fun ρ wl3 => (law01_LevelChanges_k2 a0 r1 r4 t16_1 = some res ∧ ρ = [(2, .pointer (some (⟨b1, 0, none⟩))), (4, .bool false), (5, .pointer (some (⟨b2, 0, none⟩))), (10, .pointer (some (⟨b5, 0, none⟩))), (16, .bool t16_1)] ∧ Hp w wl3 [.own A22_0_readings c22_0_readings 46 4 (List.map encReading r1.readings), .own A28_0_readings c28_0_readings 46 4 (List.map encReading r4.1.readings), .blk b1 24 [.int .i64 a0.points, .slice A_a0_readings a0.readings.length c_a0_readings], .blk b2 24 [.int .i64 r1.points, .slice A22_0_readings r1.readings.length c22_0_readings], .blk b5 24 [.int .i64 r4.1.points, .slice A28_0_readings r4.1.readings.length c28_0_readings]])) ?_ ?_
          ·
            rintro _ wl3 ⟨F, rfl, H⟩
            have R0 := H.ext
            unfold law01_LevelChanges_k2 at F
            refine CW.seqJ (fun ρ wl4 => (law01_LevelChanges_k1 a0 r1 t16_1 = some res ∧ ρ = [(2, .pointer (some (⟨b1, 0, none⟩))), (4, .bool false), (5, .pointer (some (⟨b2, 0, none⟩))), (16, .bool t16_1)] ∧ Hp w wl4 [.own A22_0_readings c22_0_readings 46 4 (List.map encReading r1.readings), .blk b1 24 [.int .i64 a0.points, .slice A_a0_readings a0.readings.length c_a0_readings], .blk b2 24 [.int .i64 r1.points, .slice A22_0_readings r1.readings.length c22_0_readings]])) ?_ ?_
            ·
              rintro _ wl4 ⟨F, rfl, H⟩
              have R0 := H.ext
              unfold law01_LevelChanges_k1 at F
              refine CW.seq fun K13 hK13 => ?_
              by_cases hp3 : t16_1 = true
              ·
                replace F := ite_y hp3 F
                have hq3 : t16_1 = true := hp3
                obtain ⟨r2, hr2, F⟩ := bnd_some F
                by_cases hp4 : r2 = true
                ·
                  replace F := ite_y hp4 F
                  have hq4 : r2 = true := hp4
                  obtain ⟨r3, hr3, F⟩ := bnd_some F
                  refine CW.region ?_
                  refine LW.pure rfl rfl (RV.move rfl) ?_
                  refine LW.pure rfl rfl (RV.move rfl) ?_
                  refine LW.pureYB rfl rfl rfl rfl hq3 (RV.loadA [.int .i64 r1.points, .slice A22_0_readings r1.readings.length c22_0_readings] Tk24 rfl (H.blk 2 rfl).cells rfl rfl) ?_
                  refine LW.pureYB rfl rfl rfl rfl hq3 (RV.loadA [.int .i64 a0.points, .slice A_a0_readings a0.readings.length c_a0_readings] Tk24 rfl (H.blk 1 rfl).cells rfl rfl) ?_
                  refine LW.yesB rfl rfl rfl rfl hq3 (OW.call Tc31 rfl (ref01_Same_ok (a0 := r1) (a1 := a0) (H.own 0 rfl).sl (h_a0_readings.ext R0) hr2) ?_)
                  rintro _ w22 ⟨rfl, E9⟩
                  refine ⟨_, rfl, ?_⟩
                  replace H := H.grow E9
                  replace R0 := H.ext
                  refine LW.pure rfl rfl (RV.pickTB rfl hq3 rfl) ?_
                  refine LW.pure rfl rfl (RV.move rfl) ?_
                  refine LW.yesB rfl rfl rfl rfl hq4 (OW.call Tc18 rfl (law01_known_ok hr3) ?_)
                  rintro _ w23 ⟨rfl, E10⟩
                  refine ⟨_, rfl, ?_⟩
                  replace H := H.grow E10
                  replace R0 := H.ext
                  refine LW.pure rfl rfl (RV.pickTB rfl hq4 rfl) ?_
                  refine LW.pure rfl rfl (RV.assign rfl) ?_
                  refine LW.nil (hK13 _ _ ?_)
                  refine CW.ret ?_
                  obtain rfl := Option.some.inj F
                  refine ⟨_, (ResOK.one rfl), ?_⟩
                  refine ⟨(by first | rfl | simp), R0⟩
                ·
                  replace F := ite_n hp4 F
                  have hq4 : r2 = false := raw_f hp4
                  refine CW.region ?_
                  refine LW.pure rfl rfl (RV.move rfl) ?_
                  refine LW.pure rfl rfl (RV.move rfl) ?_
                  refine LW.pureYB rfl rfl rfl rfl hq3 (RV.loadA [.int .i64 r1.points, .slice A22_0_readings r1.readings.length c22_0_readings] Tk24 rfl (H.blk 2 rfl).cells rfl rfl) ?_
                  refine LW.pureYB rfl rfl rfl rfl hq3 (RV.loadA [.int .i64 a0.points, .slice A_a0_readings a0.readings.length c_a0_readings] Tk24 rfl (H.blk 1 rfl).cells rfl rfl) ?_
                  refine LW.yesB rfl rfl rfl rfl hq3 (OW.call Tc31 rfl (ref01_Same_ok (a0 := r1) (a1 := a0) (H.own 0 rfl).sl (h_a0_readings.ext R0) hr2) ?_)
                  rintro _ w24 ⟨rfl, E11⟩
                  refine ⟨_, rfl, ?_⟩
                  replace H := H.grow E11
                  replace R0 := H.ext
                  refine LW.pure rfl rfl (RV.pickTB rfl hq3 rfl) ?_
                  refine LW.pure rfl rfl (RV.move rfl) ?_
                  refine LW.noB rfl rfl rfl rfl (ne_beq (v := false) hq4 rfl) ?_
                  refine LW.pure rfl rfl (RV.pickFB rfl hq4 rfl) ?_
                  refine LW.pure rfl rfl (RV.assign rfl) ?_
                  refine LW.nil (hK13 _ _ ?_)
                  refine CW.ret ?_
                  obtain rfl := Option.some.inj F
                  refine ⟨_, (ResOK.one rfl), ?_⟩
                  refine ⟨(by first | rfl | simp), R0⟩
              ·
                replace F := ite_n hp3 F
                have hq3 : t16_1 = false := raw_f hp3
                refine CW.region ?_
                refine LW.pure rfl rfl (RV.move rfl) ?_
                refine LW.pure rfl rfl (RV.move rfl) ?_
                refine LW.noB rfl rfl rfl rfl (ne_beq (v := false) hq3 rfl) ?_
                refine LW.noB rfl rfl rfl rfl (ne_beq (v := false) hq3 rfl) ?_
                refine LW.noB rfl rfl rfl rfl (ne_beq (v := false) hq3 rfl) ?_
                refine LW.pure rfl rfl (RV.pickFB rfl hq3 rfl) ?_
                refine LW.pure rfl rfl (RV.move rfl) ?_
                refine LW.noB rfl rfl rfl rfl (ne_beq (v := false) rfl rfl) ?_
                refine LW.pure rfl rfl (RV.pickFB rfl rfl rfl) ?_
                refine LW.pure rfl rfl (RV.assign rfl) ?_
                refine LW.nil (hK13 _ _ ?_)
                refine CW.ret ?_
                obtain rfl := Option.some.inj F
                refine ⟨_, (ResOK.one rfl), ?_⟩
                refine ⟨(by first | rfl | simp), R0⟩
            ·
              intro K14 hK14 jK91
              refine CW.seq fun K15 hK15 => ?_
              refine CW.region ?_
              refine LW.pure rfl rfl (RV.assign rfl) ?_
              refine LW.nil (hK15 _ _ ?_)
              refine CW.block ?_
              refine CW.loop (fun meas ρ wl5 => ∃ (t18_1 : Int) (l1 : List Reading), law01_LevelChanges_L1 a0 r1 t16_1 meas t18_1 l1 = some res ∧ ρ = [(2, .pointer (some (⟨b1, 0, none⟩))), (4, .bool false), (5, .pointer (some (⟨b2, 0, none⟩))), (10, .pointer (some (⟨b5, 0, none⟩))), (16, .bool t16_1), (18, .int .i64 t18_1)] ∧ Hp w wl5 [.own A22_0_readings c22_0_readings 46 4 (List.map encReading r1.readings), .own A28_0_readings c28_0_readings 46 4 (List.map encReading l1), .blk b1 24 [.int .i64 a0.points, .slice A_a0_readings a0.readings.length c_a0_readings], .blk b2 24 [.int .i64 r1.points, .slice A22_0_readings r1.readings.length c22_0_readings], .blk b5 24 [.int .i64 r4.1.points, .slice A28_0_readings l1.length c28_0_readings]]) FU ⟨_, ?_, ((0 : Int)), r4.1.readings, F, rfl, H⟩ ?_
              · exact ⟨rfl, rfl, rfl, rfl, rfl, rfl, trivial⟩
              rintro mk1 _ wl5 ⟨t18_1, l1, F, rfl, H⟩
              have R0 := H.ext
              replace F := law01_LevelChanges_L1_s F
              obtain ⟨mk1, rfl, F⟩ := F
              generalize hrec1 : law01_LevelChanges_L1 a0 r1 t16_1 mk1 = rec1 at F
              unfold law01_LevelChanges_B1 at F
              refine CW.seq fun K16 hK16 => ?_
              refine CW.seq fun K17 hK17 => ?_
              refine CW.region ?_
              refine LW.pure rfl rfl (RV.move rfl) ?_
              refine LW.pure rfl rfl (RV.fieldAddr Tf24_1 rfl) ?_
              refine LW.pure rfl rfl (RV.load1 Tk22 rfl ((H.blk 4 rfl).cells.off 1) rfl) ?_
              refine LW.pure rfl rfl (RV.len Ts22 rfl) ?_
              refine LW.pure rfl rfl (RV.lss rfl rfl) ?_
              refine LW.nil (hK17 _ _ ?_)
              by_cases hp5 : t18_1 < ((l1.length : Int))
              ·
                replace F := ite_y hp5 F
                have hq5 := dec_t hp5
                refine CW.condT rfl hq5 ?_
                refine CW.skip (hK16 _ _ ?_)
                refine CW.seq fun K18 hK18 => ?_
                refine CW.block ?_
                obtain ⟨x1, hbx1, hx1, F⟩ := ix_some F
                refine CW.region ?_
                refine LW.pure rfl rfl (RV.fieldAddr Tf24_1 rfl) ?_
                refine LW.pure rfl rfl (RV.load1 Tk22 rfl ((H.blk 4 rfl).cells.off 1) rfl) ?_
                refine LW.pure rfl rfl (RV.move rfl) ?_
                refine LW.pure rfl rfl (RV.indexAddr Ts22 rfl rfl hbx1 ((H.own 1 rfl).sl.addr_ hx1)) ?_
                refine LW.pure rfl rfl (RV.fieldAddr Tf46_3 rfl) ?_
                refine LW.go rfl rfl (OW.storeO (enc := encReading) (vs := [.int .i64 (-1)]) 3 ((⟨x1.from_, x1.to_, x1.rise, -1⟩ : Reading)) Tk3 rfl rfl (H.own 1 rfl) (fun _ => rfl) rfl hx1 rfl rfl (by decide) rfl rfl fun w25 M1 O1 => ?_)
                replace H : Hp w w25 [.own A22_0_readings c22_0_readings 46 4 (List.map encReading r1.readings), .own A28_0_readings c28_0_readings 46 4 (List.map encReading ((l1.set (Int.toNat t18_1) ((⟨x1.from_, x1.to_, x1.rise, -1⟩ : Reading))))), .blk b1 24 [.int .i64 a0.points, .slice A_a0_readings a0.readings.length c_a0_readings], .blk b2 24 [.int .i64 r1.points, .slice A22_0_readings r1.readings.length c22_0_readings], .blk b5 24 [.int .i64 r4.1.points, .slice A28_0_readings l1.length c28_0_readings]] := H.mod 1 rfl M1 O1 (.inl rfl)
                replace R0 := H.ext
                refine LW.nil (hK18 _ _ ?_)
                obtain ⟨hg1, F⟩ := gd_some F
                refine CW.region ?_
                refine LW.pure rfl rfl (RV.move rfl) ?_
                refine LW.pure rfl rfl (RV.add rfl rfl hg1) ?_
                refine LW.pure rfl rfl (RV.assign rfl) ?_
                refine LW.nil ?_
                have hce1 : l1.length = ((l1.set (Int.toNat t18_1) ((⟨x1.from_, x1.to_, x1.rise, -1⟩ : Reading)))).length := by first | omega | (simp; done) | (simp; omega) | rfl | assumption
                replace H := H.cast (L' := [.own A22_0_readings c22_0_readings 46 4 (List.map encReading r1.readings), .own A28_0_readings c28_0_readings 46 4 (List.map encReading ((l1.set (Int.toNat t18_1) ((⟨x1.from_, x1.to_, x1.rise, -1⟩ : Reading))))), .blk b1 24 [.int .i64 a0.points, .slice A_a0_readings a0.readings.length c_a0_readings], .blk b2 24 [.int .i64 r1.points, .slice A22_0_readings r1.readings.length c22_0_readings], .blk b5 24 [.int .i64 r4.1.points, .slice A28_0_readings (((l1.set (Int.toNat t18_1) ((⟨x1.from_, x1.to_, x1.rise, -1⟩ : Reading)))).length) c28_0_readings]]) (by first | (rw [hce1]; done) | simp [hce1] | rfl)
                subst hrec1
                refine ⟨mk1, Nat.lt_succ_self _, _, ?_, (t18_1 + 1), ((l1.set (Int.toNat t18_1) ((⟨x1.from_, x1.to_, x1.rise, -1⟩ : Reading)))), F, rfl, H⟩
                exact ⟨rfl, rfl, rfl, rfl, rfl, rfl, trivial⟩
              ·
                replace F := ite_n hp5 F
                have hq5 := dec_f hp5
                refine CW.condF rfl hq5 ?_
                replace H := H.pick (L' := [.own A22_0_readings c22_0_readings 46 4 (List.map encReading r1.readings), .blk b1 24 [.int .i64 a0.points, .slice A_a0_readings a0.readings.length c_a0_readings], .blk b2 24 [.int .i64 r1.points, .slice A22_0_readings r1.readings.length c22_0_readings]]) [0, 2, 3] (by decide) rfl
                replace R0 := H.ext
                refine CW.exit (jK91 _ _ ⟨_, ?_, ⟨F, rfl, H⟩⟩)
                exact ⟨rfl, rfl, rfl, rfl, trivial⟩
          ·
            intro K19 hK19 jK102
            refine CW.seq fun K20 hK20 => ?_
            refine CW.region ?_
            refine LW.pure rfl rfl (RV.assign rfl) ?_
            refine LW.nil (hK20 _ _ ?_)
            refine CW.block ?_
            refine CW.loop (fun meas ρ wl6 => ∃ (t17_1 : Int) (l2 : List Reading), law01_LevelChanges_L2 a0 r1 r4 t16_1 meas t17_1 l2 = some res ∧ ρ = [(2, .pointer (some (⟨b1, 0, none⟩))), (4, .bool false), (5, .pointer (some (⟨b2, 0, none⟩))), (6, .pointer (some (⟨b3, 0, none⟩))), (10, .pointer (some (⟨b5, 0, none⟩))), (16, .bool t16_1), (17, .int .i64 t17_1)] ∧ Hp w wl6 [.own A22_0_readings c22_0_readings 46 4 (List.map encReading r1.readings), .own A24_0_readings c24_0_readings 46 4 (List.map encReading l2), .own A28_0_readings c28_0_readings 46 4 (List.map encReading r4.1.readings), .blk b1 24 [.int .i64 a0.points, .slice A_a0_readings a0.readings.length c_a0_readings], .blk b2 24 [.int .i64 r1.points, .slice A22_0_readings r1.readings.length c22_0_readings], .blk b3 24 [.int .i64 r5.1.points, .slice A24_0_readings l2.length c24_0_readings], .blk b5 24 [.int .i64 r4.1.points, .slice A28_0_readings r4.1.readings.length c28_0_readings]]) FU ⟨_, ?_, ((0 : Int)), r5.1.readings, F, rfl, H⟩ ?_
            · exact ⟨rfl, rfl, rfl, rfl, rfl, rfl, rfl, trivial⟩
            rintro mk2 _ wl6 ⟨t17_1, l2, F, rfl, H⟩
            have R0 := H.ext
            replace F := law01_LevelChanges_L2_s F
            obtain ⟨mk2, rfl, F⟩ := F
            generalize hrec2 : law01_LevelChanges_L2 a0 r1 r4 t16_1 mk2 = rec2 at F
            unfold law01_LevelChanges_B2 at F
            refine CW.seq fun K21 hK21 => ?_
            refine CW.seq fun K22 hK22 => ?_
            refine CW.region ?_
            refine LW.pure rfl rfl (RV.move rfl) ?_
            refine LW.pure rfl rfl (RV.fieldAddr Tf24_1 rfl) ?_
            refine LW.pure rfl rfl (RV.load1 Tk22 rfl ((H.blk 5 rfl).cells.off 1) rfl) ?_
            refine LW.pure rfl rfl (RV.len Ts22 rfl) ?_
            refine LW.pure rfl rfl (RV.lss rfl rfl) ?_
            refine LW.nil (hK22 _ _ ?_)
            by_cases hp6 : t17_1 < ((l2.length : Int))
            ·
              replace F := ite_y hp6 F
              have hq6 := dec_t hp6
              refine CW.condT rfl hq6 ?_
              refine CW.skip (hK21 _ _ ?_)
              refine CW.seq fun K23 hK23 => ?_
              refine CW.block ?_
              obtain ⟨x2, hbx2, hx2, F⟩ := ix_some F
              refine CW.region ?_
              refine LW.pure rfl rfl (RV.fieldAddr Tf24_1 rfl) ?_
              refine LW.pure rfl rfl (RV.load1 Tk22 rfl ((H.blk 5 rfl).cells.off 1) rfl) ?_
              refine LW.pure rfl rfl (RV.move rfl) ?_
              refine LW.pure rfl rfl (RV.indexAddr Ts22 rfl rfl hbx2 ((H.own 1 rfl).sl.addr_ hx2)) ?_
              refine LW.pure rfl rfl (RV.fieldAddr Tf46_3 rfl) ?_
              refine LW.go rfl rfl (OW.storeO (enc := encReading) (vs := [.int .i64 (-1)]) 3 ((⟨x2.from_, x2.to_, x2.rise, -1⟩ : Reading)) Tk3 rfl rfl (H.own 1 rfl) (fun _ => rfl) rfl hx2 rfl rfl (by decide) rfl rfl fun w26 M2 O2 => ?_)
              replace H : Hp w w26 [.own A22_0_readings c22_0_readings 46 4 (List.map encReading r1.readings), .own A24_0_readings c24_0_readings 46 4 (List.map encReading ((l2.set (Int.toNat t17_1) ((⟨x2.from_, x2.to_, x2.rise, -1⟩ : Reading))))), .own A28_0_readings c28_0_readings 46 4 (List.map encReading r4.1.readings), .blk b1 24 [.int .i64 a0.points, .slice A_a0_readings a0.readings.length c_a0_readings], .blk b2 24 [.int .i64 r1.points, .slice A22_0_readings r1.readings.length c22_0_readings], .blk b3 24 [.int .i64 r5.1.points, .slice A24_0_readings l2.length c24_0_readings], .blk b5 24 [.int .i64 r4.1.points, .slice A28_0_readings r4.1.readings.length c28_0_readings]] := H.mod 1 rfl M2 O2 (.inl rfl)
              replace R0 := H.ext
              refine LW.nil (hK23 _ _ ?_)
              obtain ⟨hg2, F⟩ := gd_some F
              refine CW.region ?_
              refine LW.pure rfl rfl (RV.move rfl) ?_
              refine LW.pure rfl rfl (RV.add rfl rfl hg2) ?_
              refine LW.pure rfl rfl (RV.assign rfl) ?_
              refine LW.nil ?_
              have hce2 : l2.length = ((l2.set (Int.toNat t17_1) ((⟨x2.from_, x2.to_, x2.rise, -1⟩ : Reading)))).length := by first | omega | (simp; done) | (simp; omega) | rfl | assumption
              replace H := H.cast (L' := [.own A22_0_readings c22_0_readings 46 4 (List.map encReading r1.readings), .own A24_0_readings c24_0_readings 46 4 (List.map encReading ((l2.set (Int.toNat t17_1) ((⟨x2.from_, x2.to_, x2.rise, -1⟩ : Reading))))), .own A28_0_readings c28_0_readings 46 4 (List.map encReading r4.1.readings), .blk b1 24 [.int .i64 a0.points, .slice A_a0_readings a0.readings.length c_a0_readings], .blk b2 24 [.int .i64 r1.points, .slice A22_0_readings r1.readings.length c22_0_readings], .blk b3 24 [.int .i64 r5.1.points, .slice A24_0_readings (((l2.set (Int.toNat t17_1) ((⟨x2.from_, x2.to_, x2.rise, -1⟩ : Reading)))).length) c24_0_readings], .blk b5 24 [.int .i64 r4.1.points, .slice A28_0_readings r4.1.readings.length c28_0_readings]]) (by first | (rw [hce2]; done) | simp [hce2] | rfl)
              subst hrec2
              refine ⟨mk2, Nat.lt_succ_self _, _, ?_, (t17_1 + 1), ((l2.set (Int.toNat t17_1) ((⟨x2.from_, x2.to_, x2.rise, -1⟩ : Reading)))), F, rfl, H⟩
              exact ⟨rfl, rfl, rfl, rfl, rfl, rfl, rfl, trivial⟩
            ·
              replace F := ite_n hp6 F
              have hq6 := dec_f hp6
              refine CW.condF rfl hq6 ?_
              replace H := H.pick (L' := [.own A22_0_readings c22_0_readings 46 4 (List.map encReading r1.readings), .own A28_0_readings c28_0_readings 46 4 (List.map encReading r4.1.readings), .blk b1 24 [.int .i64 a0.points, .slice A_a0_readings a0.readings.length c_a0_readings], .blk b2 24 [.int .i64 r1.points, .slice A22_0_readings r1.readings.length c22_0_readings], .blk b5 24 [.int .i64 r4.1.points, .slice A28_0_readings r4.1.readings.length c28_0_readings]]) [0, 2, 3, 4, 6] (by decide) rfl
              replace R0 := H.ext
              refine CW.exit (jK102 _ _ ⟨_, ?_, ⟨F, rfl, H⟩⟩)
              exact ⟨rfl, rfl, rfl, rfl, rfl, trivial⟩
        ·
          intro K24 hK24 jK113
          by_cases hp7 : r4.2 = 0
          ·
            replace F := ite_y hp7 F
            have hq7 := dec_t hp7
            by_cases hp8 : r6.2 = 0
            ·
              replace F := ite_y hp8 F
              have hq8 := dec_t hp8
              obtain ⟨r7, hr7, F⟩ := bnd_some F
              refine CW.region ?_
              refine LW.pure rfl rfl (RV.move rfl) ?_
              refine LW.pure rfl rfl (RV.nei rfl rfl) ?_
              refine LW.pure rfl rfl (RV.move rfl) ?_
              refine LW.pureYB rfl rfl rfl rfl (not_f hq7) (RV.move rfl) ?_
              refine LW.pureYB rfl rfl rfl rfl (not_f hq7) (RV.eqi rfl rfl) ?_
              refine LW.pureYB rfl rfl rfl rfl (not_f hq7) (RV.move rfl) ?_
              refine LW.pureYB rfl rfl rfl rfl hq8 (RV.loadA [.int .i64 r6.1.points, .slice A34_0_readings r6.1.readings.length c34_0_readings] Tk24 rfl (H.blk 0 rfl).cells rfl rfl) ?_
              refine LW.pureYB rfl rfl rfl rfl hq8 (RV.loadA [.int .i64 a0.points, .slice A_a0_readings a0.readings.length c_a0_readings] Tk24 rfl (H.blk 5 rfl).cells rfl rfl) ?_
              refine LW.yesB rfl rfl rfl rfl hq8 (OW.call Tc31 rfl (ref01_Same_ok (a0 := r6.1) (a1 := a0) (H.own 1 rfl).sl (h_a0_readings.ext R0) hr7) ?_)
              rintro _ w27 ⟨rfl, E12⟩
              refine ⟨_, rfl, ?_⟩
              replace H := H.grow E12
              replace R0 := H.ext
              refine LW.pureYB rfl rfl rfl rfl (not_f hq7) (RV.pickTB rfl hq8 rfl) ?_
              refine LW.pure rfl rfl (RV.pickFB rfl (not_f hq7) rfl) ?_
              refine LW.pure rfl rfl (RV.assign rfl) ?_
              replace H := H.pick (L' := [.own A22_0_readings c22_0_readings 46 4 (List.map encReading r1.readings), .own A24_0_readings c24_0_readings 46 4 (List.map encReading r5.1.readings), .own A28_0_readings c28_0_readings 46 4 (List.map encReading r4.1.readings), .blk b1 24 [.int .i64 a0.points, .slice A_a0_readings a0.readings.length c_a0_readings], .blk b2 24 [.int .i64 r1.points, .slice A22_0_readings r1.readings.length c22_0_readings], .blk b3 24 [.int .i64 r5.1.points, .slice A24_0_readings r5.1.readings.length c24_0_readings], .blk b5 24 [.int .i64 r4.1.points, .slice A28_0_readings r4.1.readings.length c28_0_readings]]) [2, 3, 4, 5, 6, 7, 8] (by decide) rfl
              replace R0 := H.ext
              refine LW.nil (jK113 _ _ ⟨_, ?_, ⟨r7, F, rfl, H⟩⟩)
              exact ⟨rfl, rfl, rfl, rfl, rfl, rfl, trivial⟩
            ·
              replace F := ite_n hp8 F
              have hq8 := dec_f hp8
              refine CW.region ?_
              refine LW.pure rfl rfl (RV.move rfl) ?_
              refine LW.pure rfl rfl (RV.nei rfl rfl) ?_
              refine LW.pure rfl rfl (RV.move rfl) ?_
              refine LW.pureYB rfl rfl rfl rfl (not_f hq7) (RV.move rfl) ?_
              refine LW.pureYB rfl rfl rfl rfl (not_f hq7) (RV.eqi rfl rfl) ?_
              refine LW.pureYB rfl rfl rfl rfl (not_f hq7) (RV.move rfl) ?_
              refine LW.noB rfl rfl rfl rfl (ne_beq (v := false) hq8 rfl) ?_
              refine LW.noB rfl rfl rfl rfl (ne_beq (v := false) hq8 rfl) ?_
              refine LW.noB rfl rfl rfl rfl (ne_beq (v := false) hq8 rfl) ?_
              refine LW.pureYB rfl rfl rfl rfl (not_f hq7) (RV.pickFB rfl hq8 rfl) ?_
              refine LW.pure rfl rfl (RV.pickFB rfl (not_f hq7) rfl) ?_
              refine LW.pure rfl rfl (RV.assign rfl) ?_
              replace H := H.pick (L' := [.own A22_0_readings c22_0_readings 46 4 (List.map encReading r1.readings), .own A24_0_readings c24_0_readings 46 4 (List.map encReading r5.1.readings), .own A28_0_readings c28_0_readings 46 4 (List.map encReading r4.1.readings), .blk b1 24 [.int .i64 a0.points, .slice A_a0_readings a0.readings.length c_a0_readings], .blk b2 24 [.int .i64 r1.points, .slice A22_0_readings r1.readings.length c22_0_readings], .blk b3 24 [.int .i64 r5.1.points, .slice A24_0_readings r5.1.readings.length c24_0_readings], .blk b5 24 [.int .i64 r4.1.points, .slice A28_0_readings r4.1.readings.length c28_0_readings]]) [2, 3, 4, 5, 6, 7, 8] (by decide) rfl
              replace R0 := H.ext
              refine LW.nil (jK113 _ _ ⟨_, ?_, ⟨false, F, rfl, H⟩⟩)
              exact ⟨rfl, rfl, rfl, rfl, rfl, rfl, trivial⟩
          ·
            replace F := ite_n hp7 F
            have hq7 := dec_f hp7
            refine CW.region ?_
            refine LW.pure rfl rfl (RV.move rfl) ?_
            refine LW.pure rfl rfl (RV.nei rfl rfl) ?_
            refine LW.pure rfl rfl (RV.move rfl) ?_
            refine LW.noB rfl rfl rfl rfl (ne_beq (v := true) (not_t hq7) rfl) ?_
            refine LW.noB rfl rfl rfl rfl (ne_beq (v := true) (not_t hq7) rfl) ?_
            refine LW.noB rfl rfl rfl rfl (ne_beq (v := true) (not_t hq7) rfl) ?_
            refine LW.noU rfl rfl rfl rfl ?_
            refine LW.noU rfl rfl rfl rfl ?_
            refine LW.noU rfl rfl rfl rfl ?_
            refine LW.noB rfl rfl rfl rfl (ne_beq (v := true) (not_t hq7) rfl) ?_
            refine LW.pure rfl rfl (RV.pickTB rfl (not_t hq7) rfl) ?_
            refine LW.pure rfl rfl (RV.assign rfl) ?_
            replace H := H.pick (L' := [.own A22_0_readings c22_0_readings 46 4 (List.map encReading r1.readings), .own A24_0_readings c24_0_readings 46 4 (List.map encReading r5.1.readings), .own A28_0_readings c28_0_readings 46 4 (List.map encReading r4.1.readings), .blk b1 24 [.int .i64 a0.points, .slice A_a0_readings a0.readings.length c_a0_readings], .blk b2 24 [.int .i64 r1.points, .slice A22_0_readings r1.readings.length c22_0_readings], .blk b3 24 [.int .i64 r5.1.points, .slice A24_0_readings r5.1.readings.length c24_0_readings], .blk b5 24 [.int .i64 r4.1.points, .slice A28_0_readings r4.1.readings.length c28_0_readings]]) [2, 3, 4, 5, 6, 7, 8] (by decide) rfl
            replace R0 := H.ext
            refine LW.nil (jK113 _ _ ⟨_, ?_, ⟨true, F, rfl, H⟩⟩)
            exact ⟨rfl, rfl, rfl, rfl, rfl, rfl, trivial⟩
    ·
      intro K25 hK25 jK114
      obtain ⟨r12, hr12, F⟩ := bnd_some F
      by_cases hp9 : r12 = true
      ·
        replace F := ite_y hp9 F
        have hq9 : r12 = true := hp9
        by_cases hp10 : r5.2 = r10.2
        ·
          replace F := ite_y hp10 F
          have hq10 := dec_t hp10
          obtain ⟨r13, hr13, F⟩ := bnd_some F
          by_cases hp11 : r13 = true
          ·
            replace F := ite_y hp11 F
            have hq11 : r13 = true := hp11
            refine CW.region ?_
            refine LW.pure rfl rfl (RV.loadA [.int .i64 r5.1.points, .slice A24_0_readings r5.1.readings.length c24_0_readings] Tk24 rfl (H.blk 6 rfl).cells rfl rfl) ?_
            refine LW.pure rfl rfl (RV.loadA [.int .i64 r10.1.points, .slice A26_0_readings r10.1.readings.length c26_0_readings] Tk24 rfl (H.blk 4 rfl).cells rfl rfl) ?_
            refine LW.go rfl rfl (OW.call Tc31 rfl (ref01_Same_ok (a0 := r5.1) (a1 := r10.1) (H.own 7 rfl).sl (H.own 5 rfl).sl hr12) ?_)
            rintro _ w28 ⟨rfl, E13⟩
            refine ⟨_, rfl, ?_⟩
            replace H := H.grow E13
            replace R0 := H.ext
            refine LW.pure rfl rfl (RV.not rfl) ?_
            refine LW.pure rfl rfl (RV.move rfl) ?_
            refine LW.pureYB rfl rfl rfl rfl (not_f hq9) (RV.move rfl) ?_
            refine LW.pureYB rfl rfl rfl rfl (not_f hq9) (RV.move rfl) ?_
            refine LW.pureYB rfl rfl rfl rfl (not_f hq9) (RV.nei rfl rfl) ?_
            refine LW.pure rfl rfl (RV.pickFB rfl (not_f hq9) rfl) ?_
            refine LW.pure rfl rfl (RV.move rfl) ?_
            refine LW.pureYB rfl rfl rfl rfl (not_f hq10) (RV.loadA [.int .i64 r4.1.points, .slice A28_0_readings r4.1.readings.length c28_0_readings] Tk24 rfl (H.blk 2 rfl).cells rfl rfl) ?_
            refine LW.pureYB rfl rfl rfl rfl (not_f hq10) (RV.loadA [.int .i64 r11.1.points, .slice A30_0_readings r11.1.readings.length c30_0_readings] Tk24 rfl (H.blk 0 rfl).cells rfl rfl) ?_
            refine LW.yesB rfl rfl rfl rfl (not_f hq10) (OW.call Tc31 rfl (ref01_Same_ok (a0 := r4.1) (a1 := r11.1) (H.own 3 rfl).sl (H.own 1 rfl).sl hr13) ?_)
            rintro _ w29 ⟨rfl, E14⟩
            refine ⟨_, rfl, ?_⟩
            replace H := H.grow E14
            replace R0 := H.ext
            refine LW.pureYB rfl rfl rfl rfl (not_f hq10) (RV.not rfl) ?_
            refine LW.pure rfl rfl (RV.pickFB rfl (not_f hq10) rfl) ?_
            refine LW.pure rfl rfl (RV.move rfl) ?_
            refine LW.pureYB rfl rfl rfl rfl (not_f hq11) (RV.move rfl) ?_
            refine LW.pureYB rfl rfl rfl rfl (not_f hq11) (RV.move rfl) ?_
            refine LW.pureYB rfl rfl rfl rfl (not_f hq11) (RV.nei rfl rfl) ?_
            refine LW.pure rfl rfl (RV.pickFB rfl (not_f hq11) rfl) ?_
            replace H := H.pick (L' := [.own A22_0_readings c22_0_readings 46 4 (List.map encReading r1.readings), .own A24_0_readings c24_0_readings 46 4 (List.map encReading r5.1.readings), .own A28_0_readings c28_0_readings 46 4 (List.map encReading r4.1.readings), .blk b1 24 [.int .i64 a0.points, .slice A_a0_readings a0.readings.length c_a0_readings], .blk b2 24 [.int .i64 r1.points, .slice A22_0_readings r1.readings.length c22_0_readings], .blk b3 24 [.int .i64 r5.1.points, .slice A24_0_readings r5.1.readings.length c24_0_readings], .blk b5 24 [.int .i64 r4.1.points, .slice A28_0_readings r4.1.readings.length c28_0_readings]]) [9, 7, 3, 10, 8, 6, 2] (by decide) rfl
            replace R0 := H.ext
            refine LW.nil (jK114 _ _ ⟨_, ?_, ⟨(!(decide (r4.2 = r11.2))), F, rfl, H⟩⟩)
            exact ⟨rfl, rfl, rfl, rfl, rfl, rfl, rfl, rfl, trivial⟩
          ·
            replace F := ite_n hp11 F
            have hq11 : r13 = false := raw_f hp11
            refine CW.region ?_
            refine LW.pure rfl rfl (RV.loadA [.int .i64 r5.1.points, .slice A24_0_readings r5.1.readings.length c24_0_readings] Tk24 rfl (H.blk 6 rfl).cells rfl rfl) ?_
            refine LW.pure rfl rfl (RV.loadA [.int .i64 r10.1.points, .slice A26_0_readings r10.1.readings.length c26_0_readings] Tk24 rfl (H.blk 4 rfl).cells rfl rfl) ?_
            refine LW.go rfl rfl (OW.call Tc31 rfl (ref01_Same_ok (a0 := r5.1) (a1 := r10.1) (H.own 7 rfl).sl (H.own 5 rfl).sl hr12) ?_)
            rintro _ w30 ⟨rfl, E15⟩
            refine ⟨_, rfl, ?_⟩
            replace H := H.grow E15
            replace R0 := H.ext
            refine LW.pure rfl rfl (RV.not rfl) ?_
            refine LW.pure rfl rfl (RV.move rfl) ?_
            refine LW.pureYB rfl rfl rfl rfl (not_f hq9) (RV.move rfl) ?_
            refine LW.pureYB rfl rfl rfl rfl (not_f hq9) (RV.move rfl) ?_
            refine LW.pureYB rfl rfl rfl rfl (not_f hq9) (RV.nei rfl rfl) ?_
            refine LW.pure rfl rfl (RV.pickFB rfl (not_f hq9) rfl) ?_
            refine LW.pure rfl rfl (RV.move rfl) ?_
            refine LW.pureYB rfl rfl rfl rfl (not_f hq10) (RV.loadA [.int .i64 r4.1.points, .slice A28_0_readings r4.1.readings.length c28_0_readings] Tk24 rfl (H.blk 2 rfl).cells rfl rfl) ?_
            refine LW.pureYB rfl rfl rfl rfl (not_f hq10) (RV.loadA [.int .i64 r11.1.points, .slice A30_0_readings r11.1.readings.length c30_0_readings] Tk24 rfl (H.blk 0 rfl).cells rfl rfl) ?_
            refine LW.yesB rfl rfl rfl rfl (not_f hq10) (OW.call Tc31 rfl (ref01_Same_ok (a0 := r4.1) (a1 := r11.1) (H.own 3 rfl).sl (H.own 1 rfl).sl hr13) ?_)
            rintro _ w31 ⟨rfl, E16⟩
            refine ⟨_, rfl, ?_⟩
            replace H := H.grow E16
            replace R0 := H.ext
            refine LW.pureYB rfl rfl rfl rfl (not_f hq10) (RV.not rfl) ?_
            refine LW.pure rfl rfl (RV.pickFB rfl (not_f hq10) rfl) ?_
            refine LW.pure rfl rfl (RV.move rfl) ?_
            refine LW.noB rfl rfl rfl rfl (ne_beq (v := true) (not_t hq11) rfl) ?_
            refine LW.noB rfl rfl rfl rfl (ne_beq (v := true) (not_t hq11) rfl) ?_
            refine LW.noB rfl rfl rfl rfl (ne_beq (v := true) (not_t hq11) rfl) ?_
            refine LW.pure rfl rfl (RV.pickTB rfl (not_t hq11) rfl) ?_
            replace H := H.pick (L' := [.own A22_0_readings c22_0_readings 46 4 (List.map encReading r1.readings), .own A24_0_readings c24_0_readings 46 4 (List.map encReading r5.1.readings), .own A28_0_readings c28_0_readings 46 4 (List.map encReading r4.1.readings), .blk b1 24 [.int .i64 a0.points, .slice A_a0_readings a0.readings.length c_a0_readings], .blk b2 24 [.int .i64 r1.points, .slice A22_0_readings r1.readings.length c22_0_readings], .blk b3 24 [.int .i64 r5.1.points, .slice A24_0_readings r5.1.readings.length c24_0_readings], .blk b5 24 [.int .i64 r4.1.points, .slice A28_0_readings r4.1.readings.length c28_0_readings]]) [9, 7, 3, 10, 8, 6, 2] (by decide) rfl
            replace R0 := H.ext
            refine LW.nil (jK114 _ _ ⟨_, ?_, ⟨true, F, rfl, H⟩⟩)
            exact ⟨rfl, rfl, rfl, rfl, rfl, rfl, rfl, rfl, trivial⟩
        ·
          replace F := ite_n hp10 F
          have hq10 := dec_f hp10
          refine CW.region ?_
          refine LW.pure rfl rfl (RV.loadA [.int .i64 r5.1.points, .slice A24_0_readings r5.1.readings.length c24_0_readings] Tk24 rfl (H.blk 6 rfl).cells rfl rfl) ?_
          refine LW.pure rfl rfl (RV.loadA [.int .i64 r10.1.points, .slice A26_0_readings r10.1.readings.length c26_0_readings] Tk24 rfl (H.blk 4 rfl).cells rfl rfl) ?_
          refine LW.go rfl rfl (OW.call Tc31 rfl (ref01_Same_ok (a0 := r5.1) (a1 := r10.1) (H.own 7 rfl).sl (H.own 5 rfl).sl hr12) ?_)
          rintro _ w32 ⟨rfl, E17⟩
          refine ⟨_, rfl, ?_⟩
          replace H := H.grow E17
          replace R0 := H.ext
          refine LW.pure rfl rfl (RV.not rfl) ?_
          refine LW.pure rfl rfl (RV.move rfl) ?_
          refine LW.pureYB rfl rfl rfl rfl (not_f hq9) (RV.move rfl) ?_
          refine LW.pureYB rfl rfl rfl rfl (not_f hq9) (RV.move rfl) ?_
          refine LW.pureYB rfl rfl rfl rfl (not_f hq9) (RV.nei rfl rfl) ?_
          refine LW.pure rfl rfl (RV.pickFB rfl (not_f hq9) rfl) ?_
          refine LW.pure rfl rfl (RV.move rfl) ?_
          refine LW.noB rfl rfl rfl rfl (ne_beq (v := true) (not_t hq10) rfl) ?_
          refine LW.noB rfl rfl rfl rfl (ne_beq (v := true) (not_t hq10) rfl) ?_
          refine LW.noB rfl rfl rfl rfl (ne_beq (v := true) (not_t hq10) rfl) ?_
          refine LW.noB rfl rfl rfl rfl (ne_beq (v := true) (not_t hq10) rfl) ?_
          refine LW.pure rfl rfl (RV.pickTB rfl (not_t hq10) rfl) ?_
          refine LW.pure rfl rfl (RV.move rfl) ?_
          refine LW.noB rfl rfl rfl rfl (ne_beq (v := true) rfl rfl) ?_
          refine LW.noB rfl rfl rfl rfl (ne_beq (v := true) rfl rfl) ?_
          refine LW.noB rfl rfl rfl rfl (ne_beq (v := true) rfl rfl) ?_
          refine LW.pure rfl rfl (RV.pickTB rfl rfl rfl) ?_
          replace H := H.pick (L' := [.own A22_0_readings c22_0_readings 46 4 (List.map encReading r1.readings), .own A24_0_readings c24_0_readings 46 4 (List.map encReading r5.1.readings), .own A28_0_readings c28_0_readings 46 4 (List.map encReading r4.1.readings), .blk b1 24 [.int .i64 a0.points, .slice A_a0_readings a0.readings.length c_a0_readings], .blk b2 24 [.int .i64 r1.points, .slice A22_0_readings r1.readings.length c22_0_readings], .blk b3 24 [.int .i64 r5.1.points, .slice A24_0_readings r5.1.readings.length c24_0_readings], .blk b5 24 [.int .i64 r4.1.points, .slice A28_0_readings r4.1.readings.length c28_0_readings]]) [9, 7, 3, 10, 8, 6, 2] (by decide) rfl
          replace R0 := H.ext
          refine LW.nil (jK114 _ _ ⟨_, ?_, ⟨true, F, rfl, H⟩⟩)
          exact ⟨rfl, rfl, rfl, rfl, rfl, rfl, rfl, rfl, trivial⟩
      ·
        replace F := ite_n hp9 F
        have hq9 : r12 = false := raw_f hp9
        refine CW.region ?_
        refine LW.pure rfl rfl (RV.loadA [.int .i64 r5.1.points, .slice A24_0_readings r5.1.readings.length c24_0_readings] Tk24 rfl (H.blk 6 rfl).cells rfl rfl) ?_
        refine LW.pure rfl rfl (RV.loadA [.int .i64 r10.1.points, .slice A26_0_readings r10.1.readings.length c26_0_readings] Tk24 rfl (H.blk 4 rfl).cells rfl rfl) ?_
        refine LW.go rfl rfl (OW.call Tc31 rfl (ref01_Same_ok (a0 := r5.1) (a1 := r10.1) (H.own 7 rfl).sl (H.own 5 rfl).sl hr12) ?_)
        rintro _ w33 ⟨rfl, E18⟩
        refine ⟨_, rfl, ?_⟩
        replace H := H.grow E18
        replace R0 := H.ext
        refine LW.pure rfl rfl (RV.not rfl) ?_
        refine LW.pure rfl rfl (RV.move rfl) ?_
        refine LW.noB rfl rfl rfl rfl (ne_beq (v := true) (not_t hq9) rfl) ?_
        refine LW.noB rfl rfl rfl rfl (ne_beq (v := true) (not_t hq9) rfl) ?_
        refine LW.noB rfl rfl rfl rfl (ne_beq (v := true) (not_t hq9) rfl) ?_
        refine LW.pure rfl rfl (RV.pickTB rfl (not_t hq9) rfl) ?_
        refine LW.pure rfl rfl (RV.move rfl) ?_
        refine LW.noB rfl rfl rfl rfl (ne_beq (v := true) rfl rfl) ?_
        refine LW.noB rfl rfl rfl rfl (ne_beq (v := true) rfl rfl) ?_
        refine LW.noB rfl rfl rfl rfl (ne_beq (v := true) rfl rfl) ?_
        refine LW.noB rfl rfl rfl rfl (ne_beq (v := true) rfl rfl) ?_
        refine LW.pure rfl rfl (RV.pickTB rfl rfl rfl) ?_
        refine LW.pure rfl rfl (RV.move rfl) ?_
        refine LW.noB rfl rfl rfl rfl (ne_beq (v := true) rfl rfl) ?_
        refine LW.noB rfl rfl rfl rfl (ne_beq (v := true) rfl rfl) ?_
        refine LW.noB rfl rfl rfl rfl (ne_beq (v := true) rfl rfl) ?_
        refine LW.pure rfl rfl (RV.pickTB rfl rfl rfl) ?_
        replace H := H.pick (L' := [.own A22_0_readings c22_0_readings 46 4 (List.map encReading r1.readings), .own A24_0_readings c24_0_readings 46 4 (List.map encReading r5.1.readings), .own A28_0_readings c28_0_readings 46 4 (List.map encReading r4.1.readings), .blk b1 24 [.int .i64 a0.points, .slice A_a0_readings a0.readings.length c_a0_readings], .blk b2 24 [.int .i64 r1.points, .slice A22_0_readings r1.readings.length c22_0_readings], .blk b3 24 [.int .i64 r5.1.points, .slice A24_0_readings r5.1.readings.length c24_0_readings], .blk b5 24 [.int .i64 r4.1.points, .slice A28_0_readings r4.1.readings.length c28_0_readings]]) [9, 7, 3, 10, 8, 6, 2] (by decide) rfl
        replace R0 := H.ext
        refine LW.nil (jK114 _ _ ⟨_, ?_, ⟨true, F, rfl, H⟩⟩)
        exact ⟨rfl, rfl, rfl, rfl, rfl, rfl, rfl, rfl, trivial⟩
end Go.D1

namespace Go.Tb
/-- A loop over 0 .. N - 1 with a state, that is left at the first i for which p does not hold. -/
theorem scan_loop {S R : Type} (N : Nat) (p : Nat → Bool) (g : Nat → S) (L : Nat → S → Int → Option R) (yes : Option R) (no : Nat → Option R)
    (step : ∀ n i : Nat, i < N → L (n + 1) (g i) (i : Int) = if p i = true then L n (g (i + 1)) ((i + 1 : Nat) : Int) else no i)
    (stop : ∀ n : Nat, L (n + 1) (g N) (N : Int) = yes) : ∀ (d n i : Nat), N = i + d → d < n → L n (g i) (i : Int) = match (List.range' i d).find? (fun j => !p j) with | none => yes | some j => no j
  | 0, n + 1, i, hd, hn => by
    have hi : i = N := by omega
    subst hi
    rw [stop n]; rfl
  | d + 1, n + 1, i, hd, hn => by
    rw [step n i (by omega), List.range'_succ, List.find?_cons]
    cases hp : p i
    · simp
    · simp only [if_true, Bool.not_true]
      exact scan_loop N p g L yes no step stop d n (i + 1) (by omega) (by omega)
theorem find_all {p : Nat → Bool} {i d : Nat} : (List.range' i d).find? (fun j => !p j) = none ↔ ∀ j, i ≤ j → j < i + d → p j = true := by
  rw [List.find?_eq_none]
  constructor
  · intro h j h1 h2
    have := h j (by rw [List.mem_range'_1]; omega)
    simpa using this
  · intro h x hx
    rw [List.mem_range'_1] at hx
    simp [h x hx.1 hx.2]
theorem scan_loop0 {S R : Type} (N : Nat) (p : Nat → Bool) (g : Nat → S) (L : Nat → S → Int → Option R) (yes no : Option R)
    (step : ∀ n i : Nat, i < N → L (n + 1) (g i) (i : Int) = if p i = true then L n (g (i + 1)) ((i + 1 : Nat) : Int) else no)
    (stop : ∀ n : Nat, L (n + 1) (g N) (N : Int) = yes) (hN : N ≤ 9223372036854775807) : L FU (g 0) 0 = if (∀ j, j < N → p j = true) then yes else no := by
  have h := scan_loop N p g L yes (fun _ => no) step stop N FU 0 (by omega) (by have := FU_pos; omega)
  refine Eq.trans h ?_
  cases hf : (List.range' 0 N).find? (fun j => !p j) with
  | none => rw [if_pos (fun j hj => find_all.1 hf j (by omega) (by omega))]
  | some j =>
    have h1 := List.find?_some hf
    have h2 := List.mem_of_find?_eq_some hf
    rw [List.mem_range'_1] at h2
    rw [if_neg]
    intro hall
    have := hall j (by omega)
    simp [this] at h1
/-- The same over the elements of a list. -/
theorem list_loop0 {α R : Type} (l : List α) (p : α → Bool) (L : Nat → Int → Option R) (yes no : Option R)
    (step : ∀ (n i : Nat) (x : α), l[i]? = some x → L (n + 1) (i : Int) = if p x = true then L n ((i + 1 : Nat) : Int) else no)
    (stop : ∀ n : Nat, L (n + 1) (l.length : Int) = yes) (hl : l.length ≤ 9223372036854775807) : L FU 0 = if l.all p = true then yes else no := by
  have h := scan_loop0 l.length (fun i => (l[i]?.map p).getD true) (fun _ => ()) (fun n _ i => L n i) yes no (fun n i hi => by
    have hx : l[i]? = some l[i] := by simp [hi]
    rw [step n i _ hx]; simp [hx]) stop hl
  refine Eq.trans h ?_
  by_cases ha : l.all p = true
  · rw [if_pos ha, if_pos]
    intro j hj
    have := List.all_eq_true.1 ha l[j] (List.getElem_mem hj)
    simp [hj, this]
  · rw [if_neg ha, if_neg]
    intro hc
    refine ha (List.all_eq_true.2 fun x hx => ?_)
    obtain ⟨j, hj⟩ := List.getElem?_of_mem hx
    have := hc j (lt_of_at hj)
    simpa [hj] using this
end Go.Tb

set_option linter.unusedVariables false
set_option linter.unusedSimpArgs false
namespace Go.D1
open Go.Tb
theorem known_eq : law01_known = some true := by decide +kernel
def gi (l : List Int) (i : Nat) : Int := l.getD i 0
theorem gi_set {l : List Int} {i j : Nat} {x : Int} : gi (l.set i x) j = if i = j ∧ j < l.length then x else gi l j := by
  unfold gi
  simp only [List.getD_eq_getElem?_getD, List.getElem?_set]
  by_cases h : i = j
  · subst h
    by_cases h2 : i < l.length
    · simp [h2]
    · simp [h2]
  · simp [h]
def within (n lo hi : Int) : Bool := decide (lo ≤ n) && decide (n ≤ hi)
theorem within_iff {n lo hi : Int} : within n lo hi = true ↔ lo ≤ n ∧ n ≤ hi := by unfold within; simp
theorem lwithin_eq (n lo hi : Int) : level_within n lo hi = some (within n lo hi) := by
  unfold level_within within
  by_cases h : lo ≤ n <;> simp [h]
theorem rwithin_eq (n lo hi : Int) : ref01_within n lo hi = some (within n lo hi) := by
  unfold ref01_within within
  by_cases h : lo ≤ n <;> simp [h]
def okR (s : Survey) (r : Reading) : Bool := within r.from_ 0 (s.points - 1) && within r.to_ 0 (s.points - 1) && !decide (r.from_ = r.to_) && within r.rise (-1000) 1000 && within r.weight 1 3
def validate (s : Survey) : Int := if within s.points 1 5 = true then (if 8 < s.readings.length then 3 else if s.readings.all (okR s) = true then 0 else 1) else 1
theorem Validate_eq (s : Survey) : level_Validate s = some (validate s) := by
  unfold level_Validate validate
  rw [bnd_eq (lwithin_eq _ _ _)]
  by_cases hp : within s.points 1 5 = true
  · have hw := within_iff.1 hp
    rw [if_pos hp, if_pos hp]
    by_cases h8 : 8 < s.readings.length
    · rw [if_pos (by omega), if_pos h8]
    · rw [if_neg (by omega), if_neg h8]
      refine Eq.trans (list_loop0 s.readings (okR s) (level_Validate_L1 s) (some 0) (some 1) (fun k i x hx => ?_) (fun k => ?_) (by omega)) (by split <;> rfl)
      · have := lt_of_at hx
        show level_Validate_B1 s (level_Validate_L1 s k) _ = _
        unfold level_Validate_B1 okR level_Validate_k2
        rw [if_pos (by omega), ix_nat hx, gd_pos (by omega), bnd_eq (lwithin_eq _ _ _)]
        cases h1 : within x.from_ 0 (s.points - 1)
        · rw [if_neg (by simp), if_pos rfl]; rfl
        · rw [if_pos rfl, gd_pos (by omega), bnd_eq (lwithin_eq _ _ _)]
          cases h2 : within x.to_ 0 (s.points - 1)
          · rw [if_neg (by simp), if_pos rfl]; rfl
          · rw [if_pos rfl]
            by_cases h3 : x.from_ = x.to_
            · rw [if_pos h3, if_pos rfl, decide_eq_true h3]; rfl
            · rw [if_neg h3, decide_eq_false h3, bnd_eq (lwithin_eq _ _ _)]
              cases h4 : within x.rise (-1000) 1000
              · rw [if_neg (by simp), if_pos rfl]; rfl
              · rw [if_pos rfl, bnd_eq (lwithin_eq _ _ _)]
                cases h5 : within x.weight 1 3
                · rw [if_pos (by rfl)]; rfl
                · rw [if_neg (by simp), gd_pos (by omega)]; rfl
      · show level_Validate_B1 s (level_Validate_L1 s k) _ = _
        unfold level_Validate_B1
        rw [if_neg (by omega)]; rfl
  · rw [if_neg hp, if_neg hp]
theorem rValidate_eq (s : Survey) : ref01_Validate s = some (validate s) := by
  unfold ref01_Validate validate
  rw [bnd_eq (rwithin_eq _ _ _)]
  by_cases hp : within s.points 1 5 = true
  · have hw := within_iff.1 hp
    rw [if_pos hp, if_pos hp]
    by_cases h8 : 8 < s.readings.length
    · rw [if_pos (by omega), if_pos h8]
    · rw [if_neg (by omega), if_neg h8]
      refine Eq.trans (list_loop0 s.readings (okR s) (ref01_Validate_L1 s) (some 0) (some 1) (fun k i x hx => ?_) (fun k => ?_) (by omega)) (by split <;> rfl)
      · have := lt_of_at hx
        show ref01_Validate_B1 s (ref01_Validate_L1 s k) _ = _
        unfold ref01_Validate_B1 okR ref01_Validate_k2
        rw [if_pos (by omega), ix_nat hx, gd_pos (by omega), bnd_eq (rwithin_eq _ _ _)]
        cases h1 : within x.from_ 0 (s.points - 1)
        · rw [if_neg (by simp), if_pos rfl]; rfl
        · rw [if_pos rfl, gd_pos (by omega), bnd_eq (rwithin_eq _ _ _)]
          cases h2 : within x.to_ 0 (s.points - 1)
          · rw [if_neg (by simp), if_pos rfl]; rfl
          · rw [if_pos rfl]
            by_cases h3 : x.from_ = x.to_
            · rw [if_pos h3, if_pos rfl, decide_eq_true h3]; rfl
            · rw [if_neg h3, decide_eq_false h3, bnd_eq (rwithin_eq _ _ _)]
              cases h4 : within x.rise (-1000) 1000
              · rw [if_neg (by simp), if_pos rfl]; rfl
              · rw [if_pos rfl, bnd_eq (rwithin_eq _ _ _)]
                cases h5 : within x.weight 1 3
                · rw [if_pos (by rfl)]; rfl
                · rw [if_neg (by simp), gd_pos (by omega)]; rfl
      · show ref01_Validate_B1 s (ref01_Validate_L1 s k) _ = _
        unfold ref01_Validate_B1
        rw [if_neg (by omega)]; rfl
  · rw [if_neg hp, if_neg hp]
structure SvOk (s : Survey) : Prop where
  p1 : 1 ≤ s.points
  p5 : s.points ≤ 5
  len : s.readings.length ≤ 8
  rd : ∀ r ∈ s.readings, (0 ≤ r.from_ ∧ r.from_ < s.points) ∧ (0 ≤ r.to_ ∧ r.to_ < s.points) ∧ r.from_ ≠ r.to_ ∧ (-1000 ≤ r.rise ∧ r.rise ≤ 1000) ∧ (1 ≤ r.weight ∧ r.weight ≤ 3)
theorem val0 {s : Survey} : validate s = 0 ↔ SvOk s := by
  unfold validate
  constructor
  · intro h
    split at h
    · rename_i hp
      have hw := within_iff.1 hp
      split at h
      · omega
      · split at h
        · rename_i hall
          refine ⟨hw.1, hw.2, by omega, fun r hr => ?_⟩
          have := List.all_eq_true.1 hall r hr
          unfold okR at this
          simp only [Bool.and_eq_true, within_iff, Bool.not_eq_true', decide_eq_false_iff_not] at this
          omega
        · omega
    · omega
  · intro h
    rw [if_pos (within_iff.2 ⟨h.p1, h.p5⟩), if_neg (by have := h.len; omega), if_pos]
    rw [List.all_eq_true]
    intro r hr
    have := h.rd r hr
    unfold okR
    simp only [Bool.and_eq_true, within_iff, Bool.not_eq_true', decide_eq_false_iff_not]
    omega
theorem Long_eq (s : Survey) : law01_Long s = some (decide ((100 : Int) < (s.readings.length : Int))) := rfl
end Go.D1

set_option linter.unusedVariables false
set_option linter.unusedSimpArgs false
namespace Go.D1
open Go.Tb
def gr (l : List Reading) (i : Nat) : Reading := l.getD i ⟨0, 0, 0, 0⟩
theorem gr_at {l : List Reading} {i : Nat} (h : i < l.length) : l[i]? = some (gr l i) := by simp [gr, List.getD, h]
theorem gr_ok {s : Survey} (h : SvOk s) {i : Nat} (hi : i < s.readings.length) : (0 ≤ (gr s.readings i).from_ ∧ (gr s.readings i).from_ < s.points) ∧ (0 ≤ (gr s.readings i).to_ ∧ (gr s.readings i).to_ < s.points) ∧ (gr s.readings i).from_ ≠ (gr s.readings i).to_ ∧ (-1000 ≤ (gr s.readings i).rise ∧ (gr s.readings i).rise ≤ 1000) ∧ (1 ≤ (gr s.readings i).weight ∧ (gr s.readings i).weight ≤ 3) := h.rd _ (List.mem_of_getElem? (gr_at hi))
/-- Joined by the first j readings. -/
inductive Con (s : Survey) (j : Nat) : Int → Int → Prop where
  | refl (a : Int) : Con s j a a
  | edge {i : Nat} : i < j → i < s.readings.length → Con s j (gr s.readings i).from_ (gr s.readings i).to_
  | symm {a b : Int} : Con s j a b → Con s j b a
  | trans {a b c : Int} : Con s j a b → Con s j b c → Con s j a c
theorem Con.mono {s : Survey} {j k : Nat} (hjk : j ≤ k) {a b : Int} (h : Con s j a b) : Con s k a b := by
  induction h with
  | refl a => exact .refl a
  | edge h1 h2 => exact .edge (by omega) h2
  | symm _ ih => exact ih.symm
  | trans _ _ i1 i2 => exact i1.trans i2
def relab (f : List Int) (a b : Int) : List Int := f.map fun x => if x = max (gi f a.toNat) (gi f b.toNat) then min (gi f a.toNat) (gi f b.toNat) else x
def iota (n : Nat) : List Int := (List.range n).map fun (i : Nat) => (i : Int)
def firsts (s : Survey) : Nat → List Int
  | 0 => iota s.points.toNat
  | j + 1 => relab (firsts s j) (gr s.readings j).from_ (gr s.readings j).to_
/-- One step: two points are told the smaller number. -/
def step (f : List Int) (a b : Nat) : List Int := (f.set a (min (gi f a) (gi f b))).set b (min (gi f a) (gi f b))
end Go.D1

set_option linter.unusedVariables false
set_option linter.unusedSimpArgs false
namespace Go.D1
open Go.Tb
def isRoot (f : List Int) (i : Int) : Bool := decide (gi f i.toNat = i)
def rootsOf (s : Survey) : List Int := firsts s s.readings.length
end Go.D1

set_option linter.unusedVariables false
set_option linter.unusedSimpArgs false
namespace Go.D1
open Go.Tb
def gb (l : List Bool) (i : Nat) : Bool := l.getD i false
abbrev HK := List Int × List Bool
/-- One reading of the tree is gone along, if one of its points alone is known. -/
def go1 (r : Reading) (x : HK) : HK :=
  if gb x.2 r.from_.toNat = true ∧ gb x.2 r.to_.toNat = false then (x.1.set r.to_.toNat (gi x.1 r.from_.toNat + r.rise), x.2.set r.to_.toNat true)
  else if gb x.2 r.to_.toNat = true ∧ gb x.2 r.from_.toNat = false then (x.1.set r.from_.toNat (gi x.1 r.to_.toNat - r.rise), x.2.set r.from_.toNat true)
  else x
structure HB (s : Survey) (B : Int) (x : HK) : Prop where
  l1 : x.1.length = s.points.toNat
  l2 : x.2.length = s.points.toNat
  bd : ∀ i, -B ≤ gi x.1 i ∧ gi x.1 i ≤ B
theorem HB.mono {s : Survey} {B B' : Int} {x : HK} (h : HB s B x) (hb : B ≤ B') : HB s B' x := ⟨h.l1, h.l2, fun i => by have := h.bd i; omega⟩
theorem HB.go {s : Survey} {B : Int} {x : HK} (h : HB s B x) (hB : 0 ≤ B) {r : Reading} (hr : -1000 ≤ r.rise ∧ r.rise ≤ 1000) : HB s (B + 1000) (go1 r x) := by
  have hf := h.bd r.from_.toNat
  have ht := h.bd r.to_.toNat
  unfold go1
  split
  · refine ⟨by simp [h.l1], by simp [h.l2], fun i => ?_⟩
    have := h.bd i
    rw [gi_set]
    split <;> omega
  · split
    · refine ⟨by simp [h.l1], by simp [h.l2], fun i => ?_⟩
      have := h.bd i
      rw [gi_set]
      split <;> omega
    · exact h.mono (by omega)
def op (x : HK) (r : Reading) : Bool := !(gb x.2 r.from_.toNat && gb x.2 r.to_.toNat)
end Go.D1

set_option linter.unusedVariables false
set_option linter.unusedSimpArgs false
namespace Go.D1
open Go.Tb
/-- Where the heights begin. -/
def start (s : Survey) : HK := (List.replicate s.points.toNat 0, (iota s.points.toNat).map (isRoot (rootsOf s)))
end Go.D1

set_option linter.unusedVariables false
set_option linter.unusedSimpArgs false
namespace Go.D1
open Go.Tb
def readingR (s : Survey) (k : Int) : Int := if validate s = 0 then (if within k 0 ((s.readings.length : Int) - 1) = true then 0 else 4) else validate s
theorem reading_eq {s : Survey} (hb : s.readings.length ≤ 1000) (k : Int) : level_reading s k = some (readingR s k) := by
  unfold level_reading readingR
  rw [bnd_eq (Validate_eq s)]
  by_cases hv : validate s = 0
  · rw [if_pos hv, if_pos hv, gd_pos (by omega), bnd_eq (lwithin_eq _ _ _)]
    split <;> rfl
  · rw [if_neg hv, if_neg hv]
theorem numbered_eq {s : Survey} (hb : s.readings.length ≤ 1000) (k : Int) : ref01_numbered s k = some (readingR s k) := by
  unfold ref01_numbered readingR
  rw [bnd_eq (rValidate_eq s)]
  by_cases hv : validate s = 0
  · rw [if_pos hv, if_pos hv, gd_pos (by omega), bnd_eq (rwithin_eq _ _ _)]
    split <;> rfl
  · rw [if_neg hv, if_neg hv]
theorem reading0 {s : Survey} {k : Int} (h : readingR s k = 0) : SvOk s ∧ 0 ≤ k ∧ k < (s.readings.length : Int) := by
  unfold readingR at h
  split at h
  · rename_i hv
    split at h
    · rename_i hw
      have := within_iff.1 hw
      exact ⟨val0.1 hv, by omega, by omega⟩
    · omega
  · rename_i hv; exact absurd h hv
def lessR (s : Survey) (k : Int) : Survey := ⟨s.points, s.readings.take k.toNat ++ s.readings.drop (k.toNat + 1)⟩
theorem clone_eq {l : List Reading} (h : l.length ≤ 1000) : slices_Clone_Reading l = some l := by
  unfold slices_Clone_Reading
  rw [gd_pos (by simp; omega)]; rfl
theorem without_eq {s : Survey} {k : Int} (h : readingR s k = 0) : level_without s k = some (lessR s k) := by
  have ⟨hs, h0, h1⟩ := reading0 h
  have h8 := hs.len
  unfold level_without slices_Delete_Reading lessR
  rw [bnd_eq (clone_eq (by omega)), gd_pos (by omega), gd_pos (by omega), show (k + 1).toNat = k.toNat + 1 by omega]; rfl
theorem less_eq {s : Survey} {k : Int} (h : readingR s k = 0) : ref01_less s k = some (lessR s k) := by
  have ⟨hs, h0, h1⟩ := reading0 h
  have h8 := hs.len
  unfold ref01_less lessR
  rw [gd_pos (by omega), gd_pos (by simp; omega), gd_pos (by omega), gd_pos (by omega), gd_pos (by simp; omega), show (k + 1).toNat = k.toNat + 1 by omega]; rfl
def nilS : Survey := ⟨0, []⟩
theorem Without_eq {s : Survey} (hb : s.readings.length ≤ 1000) (k : Int) : level_Without s k = some (if readingR s k = 0 then (lessR s k, 0) else (nilS, readingR s k)) := by
  unfold level_Without
  rw [bnd_eq (reading_eq hb k)]
  by_cases h : readingR s k = 0
  · rw [if_pos h, if_pos h, bnd_eq (without_eq h)]
  · rw [if_neg h, if_neg h]; rfl
theorem rWithout_eq {s : Survey} (hb : s.readings.length ≤ 1000) (k : Int) : ref01_Without s k = some (if readingR s k = 0 then (lessR s k, 0) else (nilS, readingR s k)) := by
  unfold ref01_Without
  rw [bnd_eq (numbered_eq hb k)]
  by_cases h : readingR s k = 0
  · rw [if_pos h, if_pos h, bnd_eq (less_eq h)]
  · rw [if_neg h, if_neg h]; rfl
def flip (r : Reading) : Reading := ⟨r.to_, r.from_, -r.rise, r.weight⟩
def turnR (s : Survey) (k : Int) : Survey := ⟨s.points, s.readings.set k.toNat (flip (gr s.readings k.toNat))⟩
theorem copy_eq {s : Survey} (hb : s.readings.length ≤ 1000) : ref01_Copy s = some s := by
  unfold ref01_Copy
  rw [gd_pos (by simp; omega)]; rfl
theorem Turn_eq {s : Survey} (hb : s.readings.length ≤ 1000) (k : Int) : level_Turn s k = some (if readingR s k = 0 then (turnR s k, 0) else (nilS, readingR s k)) := by
  unfold level_Turn level_Turn_k1
  rw [bnd_eq (reading_eq hb k)]
  by_cases h : readingR s k = 0
  · have ⟨hs, h0, h1⟩ := reading0 h
    have hx : s.readings[k.toNat]? = some (gr s.readings k.toNat) := gr_at (by omega)
    have hr := gr_ok hs (i := k.toNat) (by omega)
    rw [if_pos h, if_pos h, bnd_eq (clone_eq hb), ix_eq h0 hx, gd_pos (by omega), ix_eq h0 hx]; rfl
  · rw [if_neg h, if_neg h]; rfl
theorem rTurn_eq {s : Survey} (hb : s.readings.length ≤ 1000) (k : Int) : ref01_Turn s k = some (if readingR s k = 0 then (turnR s k, 0) else (nilS, readingR s k)) := by
  unfold ref01_Turn
  rw [bnd_eq (numbered_eq hb k)]
  by_cases h : readingR s k = 0
  · have ⟨hs, h0, h1⟩ := reading0 h
    have hx : s.readings[k.toNat]? = some (gr s.readings k.toNat) := gr_at (by omega)
    have hr := gr_ok hs (i := k.toNat) (by omega)
    rw [if_pos h, if_pos h, bnd_eq (copy_eq hb), ix_eq h0 hx, gd_pos (by omega), ix_eq h0 hx]; rfl
  · rw [if_neg h, if_neg h]; rfl
theorem Same_self {s : Survey} (hb : s.readings.length ≤ 1000) : ref01_Same s s = some true := by
  unfold ref01_Same ref01_Same_k2
  rw [if_pos rfl, if_neg (by simp), list_loop0 s.readings (fun _ => true) (ref01_Same_L1 s s) (some true) (some false) (fun k i x hx => ?_) (fun k => ?_) (by omega)]
  · rw [if_pos (by simp)]
  · have := lt_of_at hx
    show ref01_Same_B1 s s (ref01_Same_L1 s s k) _ = _
    unfold ref01_Same_B1
    rw [if_pos (by omega), ix_nat hx, ix_nat hx, if_pos (by simp), gd_pos (by omega), if_pos rfl]; rfl
  · show ref01_Same_B1 s s (ref01_Same_L1 s s k) _ = _
    unfold ref01_Same_B1
    rw [if_neg (by omega)]; rfl
theorem turn_ok {s : Survey} {k : Int} (h : readingR s k = 0) : readingR (turnR s k) k = 0 ∧ turnR (turnR s k) k = s := by
  have ⟨hs, h0, h1⟩ := reading0 h
  have hr := gr_ok hs (i := k.toNat) (by omega)
  have hl : (turnR s k).readings.length = s.readings.length := by unfold turnR; simp
  have hv : SvOk (turnR s k) := ⟨hs.p1, hs.p5, by rw [hl]; exact hs.len, fun r hr' => by
    have hr'' : r ∈ s.readings.set k.toNat (flip (gr s.readings k.toNat)) := hr'
    show (0 ≤ r.from_ ∧ r.from_ < s.points) ∧ (0 ≤ r.to_ ∧ r.to_ < s.points) ∧ _
    rcases List.mem_or_eq_of_mem_set hr'' with h | rfl
    · exact hs.rd r h
    · unfold flip
      simp only
      omega⟩
  constructor
  · unfold readingR
    rw [if_pos (val0.2 hv), hl, if_pos (within_iff.2 (by omega))]
  · have hg : gr (turnR s k).readings k.toNat = flip (gr s.readings k.toNat) := by
      unfold turnR gr
      simp [List.getD_eq_getElem?_getD, List.getElem?_set, show k.toNat < s.readings.length by omega]
    have hx := gr_at (l := s.readings) (i := k.toNat) (by omega)
    have hf : flip (flip (gr s.readings k.toNat)) = gr s.readings k.toNat := by
      unfold flip
      simp
    have e : (s.readings.set k.toNat (flip (gr s.readings k.toNat))).set k.toNat (gr s.readings k.toNat) = s.readings := by
      rw [List.set_set]
      apply List.ext_getElem?
      intro j
      rw [List.getElem?_set]
      by_cases hj : k.toNat = j
      · subst hj; rw [if_pos rfl, if_pos (by omega), hx]
      · rw [if_neg hj]
    show (⟨s.points, (turnR s k).readings.set k.toNat (flip (gr (turnR s k).readings k.toNat))⟩ : Survey) = s
    rw [hg, hf]
    show (⟨s.points, (s.readings.set k.toNat (flip (gr s.readings k.toNat))).set k.toNat (gr s.readings k.toNat)⟩ : Survey) = s
    rw [e]
def spoil (r : Reading) : Reading := ⟨r.from_, r.to_, r.rise, -1⟩
theorem spoil_loop {R : Type} (l : List Reading) (hl : l.length ≤ 1000) (L : Nat → Int → List Reading → Option R) (yes : Option R)
    (step : ∀ (k i : Nat) (m : List Reading) (x : Reading), m.length = l.length → m[i]? = some x → L (k + 1) (i : Int) m = L k ((i + 1 : Nat) : Int) (m.set i (spoil x)))
    (stop : ∀ (k : Nat) (m : List Reading), m.length = l.length → L (k + 1) (l.length : Int) m = yes) : L FU 0 l = yes := by
  have key : ∀ (d i k : Nat) (m : List Reading), l.length = i + d → d < k → m.length = l.length → L k (i : Int) m = yes := by
    intro d
    induction d with
    | zero =>
      intro i k m hd hk hm
      cases k with
      | zero => omega
      | succ k =>
        have : i = l.length := by omega
        subst this
        exact stop k m hm
    | succ d ih =>
      intro i k m hd hk hm
      cases k with
      | zero => omega
      | succ k =>
        rw [step k i m _ hm (gr_at (by omega))]
        exact ih (i + 1) k _ (by omega) (by omega) (by rw [List.length_set, hm])
  exact key l.length 0 FU l (by omega) (by have := FU_pos; omega) rfl
theorem changes_end {s : Survey} (hb : s.readings.length ≤ 1000) (r5 r4 : Survey × Int) (h5 : r5.1.readings.length ≤ 1000) (h4 : r4.1.readings.length ≤ 1000) : law01_LevelChanges_k3 s s r5 r4 true = some true := by
  unfold law01_LevelChanges_k3
  refine spoil_loop r5.1.readings h5 (fun k i m => law01_LevelChanges_L2 s s r4 true k i m) _ (fun k i m x hm hx => ?_) (fun k m hm => ?_)
  · have := lt_of_at hx
    show law01_LevelChanges_B2 s s r4 true (law01_LevelChanges_L2 s s r4 true k) _ _ = _
    unfold law01_LevelChanges_B2
    rw [if_pos (by omega), ix_nat hx, gd_pos (by omega)]; rfl
  · show law01_LevelChanges_B2 s s r4 true (law01_LevelChanges_L2 s s r4 true k) _ _ = _
    unfold law01_LevelChanges_B2 law01_LevelChanges_k2
    rw [if_neg (by omega)]
    refine spoil_loop r4.1.readings h4 (fun k i m => law01_LevelChanges_L1 s s true k i m) _ (fun k i m x hm hx => ?_) (fun k m hm => ?_)
    · have := lt_of_at hx
      show law01_LevelChanges_B1 s s true (law01_LevelChanges_L1 s s true k) _ _ = _
      unfold law01_LevelChanges_B1
      rw [if_pos (by omega), ix_nat hx, gd_pos (by omega)]; rfl
    · show law01_LevelChanges_B1 s s true (law01_LevelChanges_L1 s s true k) _ _ = _
      unfold law01_LevelChanges_B1 law01_LevelChanges_k1
      rw [if_neg (by omega), if_pos rfl, bnd_eq (Same_self hb), if_pos rfl, bnd_eq known_eq]
theorem law_LevelChanges (s : Survey) (k : Int) (hb : s.readings.length ≤ 9223372036854775807) : law01_LevelChanges s k = some true := by
  unfold law01_LevelChanges
  rw [bnd_eq (Long_eq s)]
  by_cases hL : (100 : Int) < (s.readings.length : Int)
  · rw [if_pos (by simpa using hL), bnd_eq known_eq]
  · have hl : s.readings.length ≤ 1000 := by omega
    rw [if_neg (by simpa using hL), bnd_eq (copy_eq hl), bnd_eq (Without_eq hl k), bnd_eq (rWithout_eq hl k), bnd_eq (Turn_eq hl k), bnd_eq (rTurn_eq hl k)]
    by_cases h : readingR s k = 0
    · have ⟨t1, t2⟩ := turn_ok h
      have hll : (lessR s k).readings.length ≤ 1000 := by unfold lessR; simp; omega
      have htl : (turnR s k).readings.length ≤ 1000 := by unfold turnR; simp; omega
      rw [if_pos h, if_pos h, bnd_eq (Same_self hll), if_pos rfl, if_pos rfl, bnd_eq (Same_self htl), if_pos rfl]
      unfold law01_LevelChanges_k4
      rw [if_neg (by simp), bnd_eq (Turn_eq htl k), if_pos t1, if_pos rfl, if_pos rfl, t2, bnd_eq (Same_self hl)]
      exact changes_end hl _ _ hll htl
    · rw [if_neg h, if_neg h, bnd_eq (Same_self (by simp [nilS])), if_pos rfl, if_pos rfl, bnd_eq (Same_self (by simp [nilS])), if_pos rfl]
      unfold law01_LevelChanges_k4
      rw [if_neg (by simp), bnd_eq (Turn_eq (by simp [nilS]) k), if_neg h]
      exact changes_end hl _ _ (by simp [nilS]) (by simp [nilS])
end Go.D1
