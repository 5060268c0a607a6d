/- Lemmas and walks that the proof of this claim uses: D2m14, Tb22, D2p1, D2p2, D2p3, D2p4, D2p5, D2p7, D2p8, D2p6, D2pA. -/
import Derived.Test.YtmpmomboclhjoaaDrainWidens2
set_option linter.unusedVariables false
set_option linter.unusedSimpArgs false
namespace Go.D2
open Go.Tb Go.Proofs Go.RowKit
theorem Tb4 : Try.prog.underlying 4 = some .bool := by kernel_rfl
theorem Tc40 : callable Try.prog 40 = true := by kernel_rfl
theorem Tc41 : callable Try.prog 41 = true := by kernel_rfl
theorem Tc42 : callable Try.prog 42 = true := by kernel_rfl
theorem Tc43 : callable Try.prog 43 = true := by kernel_rfl
theorem Tc44 : callable Try.prog 44 = true := by kernel_rfl
theorem Tc81 : callable Try.prog 81 = true := by kernel_rfl
theorem Tc82 : callable Try.prog 82 = true := by kernel_rfl
theorem Tc83 : callable Try.prog 83 = true := by kernel_rfl
theorem Tz3 : tyZ Try.prog 3 = some (.int .i64 0) := by kernel_rfl
set_option maxRecDepth 20000 in
set_option maxHeartbeats 1000000 in
theorem ref02_wide_ok {a0 : Net} {a1 : Int} {a2 : Int} {A_a0_drains : Option Addr} {c_a0_drains : Nat} {w : World} {res : Net} (h_a0_drains : Sl w A_a0_drains c_a0_drains 3 (a0.drains.map encDrain)) (F : ref02_wide a0 a1 a2 = some res) : Calls Try.prog 81 #[.agg #[.int .i64 a0.nodes, .int .i64 a0.from_, .int .i64 a0.to_, .slice A_a0_drains a0.drains.length c_a0_drains], .int .i64 a1, .int .i64 a2] w (fun e w' => ∃ (A0_drains : Option Addr) (c0_drains : Nat), e = .returned (.agg #[.int .i64 res.nodes, .int .i64 res.from_, .int .i64 res.to_, .slice A0_drains res.drains.length c0_drains]) ∧ Hp w w' [.own A0_drains c0_drains 52 3 (List.map encDrain res.drains)]) := by
  refine calls_of_cw (args := [.agg #[.int .i64 a0.nodes, .int .i64 a0.from_, .int .i64 a0.to_, .slice A_a0_drains a0.drains.length c_a0_drains], .int .i64 a1, .int .i64 a2]) Try.func81 rfl rfl rfl rfl ?_
  have H := Hp.start w
  have R0 := H.ext
  unfold ref02_wide at F
  refine CW.seq fun K1 hK1 => ?_
  refine CW.region ?_
  refine LW.go rfl rfl (OW.box rfl fun b1 w1 N1 => ?_)
  replace H := H.new N1 N1.blk
  replace R0 := H.ext
  refine LW.go rfl rfl (OW.alloc Tz24 fun b2 w2 N2 => ?_)
  replace H := H.new N2 N2.blk
  replace R0 := H.ext
  refine LW.nil (hK1 _ _ ?_)
  refine CW.seq fun K2 hK2 => ?_
  obtain ⟨r1, hr1, F⟩ := bnd_some F
  refine CW.region ?_
  refine LW.pure rfl rfl (RV.loadA [.int .i64 a0.nodes, .int .i64 a0.from_, .int .i64 a0.to_, .slice A_a0_drains a0.drains.length c_a0_drains] Tk24 rfl (H.blk 1 rfl).cells rfl rfl) ?_
  refine LW.go rfl rfl (OW.call Tc40 rfl (ref02_Copy_ok (a0 := a0) (h_a0_drains.ext R0) hr1) ?_)
  rintro _ w3 ⟨A3_0_drains, c3_0_drains, rfl, E1⟩
  refine ⟨_, rfl, ?_⟩
  replace H : Hp w w3 [.own A3_0_drains c3_0_drains 52 3 (List.map encDrain r1.drains), .blk b2 24 [.int .i64 0, .int .i64 0, .int .i64 0, .slice none 0 0], .blk b1 24 [.int .i64 a0.nodes, .int .i64 a0.from_, .int .i64 a0.to_, .slice A_a0_drains a0.drains.length c_a0_drains]] := H.append E1
  replace R0 := H.ext
  refine LW.go rfl rfl (OW.alloc Tz24 fun b3 w4 N3 => ?_)
  replace H := H.new N3 N3.blk
  replace R0 := H.ext
  refine LW.go rfl rfl (OW.store Tk24 rfl rfl (H.blk 0 rfl) (off := 0) (vs := [.int .i64 r1.nodes, .int .i64 r1.from_, .int .i64 r1.to_, .slice A3_0_drains r1.drains.length c3_0_drains]) rfl rfl rfl rfl rfl fun w5 S1 => ?_)
  replace H : Hp w w5 [.blk b3 24 [.int .i64 r1.nodes, .int .i64 r1.from_, .int .i64 r1.to_, .slice A3_0_drains r1.drains.length c3_0_drains], .own A3_0_drains c3_0_drains 52 3 (List.map encDrain r1.drains), .blk b2 24 [.int .i64 0, .int .i64 0, .int .i64 0, .slice none 0 0], .blk b1 24 [.int .i64 a0.nodes, .int .i64 a0.from_, .int .i64 a0.to_, .slice A_a0_drains a0.drains.length c_a0_drains]] := H.stored 0 rfl S1
  replace R0 := H.ext
  refine LW.nil (hK2 _ _ ?_)
  refine CW.seq fun K3 hK3 => ?_
  obtain ⟨x1, hbx1, hx1, F⟩ := ix_some F
  refine CW.region ?_
  refine LW.pure rfl rfl (RV.fieldAddr Tf24_3 rfl) ?_
  refine LW.pure rfl rfl (RV.load1 Tk22 rfl ((H.blk 0 rfl).cells.off 3) rfl) ?_
  refine LW.pure rfl rfl (RV.move rfl) ?_
  refine LW.pure rfl rfl (RV.move rfl) ?_
  refine LW.pure rfl rfl (RV.indexAddr Ts22 rfl rfl hbx1 ((H.own 1 rfl).sl.addr_ hx1)) ?_
  refine LW.pure rfl rfl (RV.fieldAddr Tf52_2 rfl) ?_
  refine LW.go rfl rfl (OW.storeO (enc := encDrain) (vs := [.int .i64 a2]) 2 ((⟨x1.from_, x1.to_, a2⟩ : Drain)) Tk3 rfl rfl (H.own 1 rfl) (fun _ => rfl) rfl hx1 rfl rfl (by decide) rfl rfl fun w6 M1 O1 => ?_)
  replace H : Hp w w6 [.blk b3 24 [.int .i64 r1.nodes, .int .i64 r1.from_, .int .i64 r1.to_, .slice A3_0_drains r1.drains.length c3_0_drains], .own A3_0_drains c3_0_drains 52 3 (List.map encDrain ((r1.drains.set (Int.toNat a1) ((⟨x1.from_, x1.to_, a2⟩ : Drain))))), .blk b2 24 [.int .i64 0, .int .i64 0, .int .i64 0, .slice none 0 0], .blk b1 24 [.int .i64 a0.nodes, .int .i64 a0.from_, .int .i64 a0.to_, .slice A_a0_drains a0.drains.length c_a0_drains]] := H.mod 1 rfl M1 O1 (.inl rfl)
  replace R0 := H.ext
  refine LW.nil (hK3 _ _ ?_)
  refine CW.seq fun K4 hK4 => ?_
  refine CW.region ?_
  refine LW.pure rfl rfl (RV.loadA [.int .i64 r1.nodes, .int .i64 r1.from_, .int .i64 r1.to_, .slice A3_0_drains r1.drains.length c3_0_drains] Tk24 rfl (H.blk 0 rfl).cells rfl rfl) ?_
  refine LW.go rfl rfl (OW.store Tk24 rfl rfl (H.blk 2 rfl) (off := 0) (vs := [.int .i64 r1.nodes, .int .i64 r1.from_, .int .i64 r1.to_, .slice A3_0_drains r1.drains.length c3_0_drains]) rfl rfl rfl rfl rfl fun w7 S2 => ?_)
  replace H : Hp w w7 [.blk b3 24 [.int .i64 r1.nodes, .int .i64 r1.from_, .int .i64 r1.to_, .slice A3_0_drains r1.drains.length c3_0_drains], .own A3_0_drains c3_0_drains 52 3 (List.map encDrain ((r1.drains.set (Int.toNat a1) ((⟨x1.from_, x1.to_, a2⟩ : Drain))))), .blk b2 24 [.int .i64 r1.nodes, .int .i64 r1.from_, .int .i64 r1.to_, .slice A3_0_drains r1.drains.length c3_0_drains], .blk b1 24 [.int .i64 a0.nodes, .int .i64 a0.from_, .int .i64 a0.to_, .slice A_a0_drains a0.drains.length c_a0_drains]] := H.stored 2 rfl S2
  replace R0 := H.ext
  refine LW.nil (hK4 _ _ ?_)
  refine CW.ret ?_
  obtain rfl := Option.some.inj F
  refine ⟨_, (ResOK.cell1 ⟨_, rfl, run_loadVar_agg Tk24 (H.blk 2 rfl).cells (us := [.int .i64 r1.nodes, .int .i64 r1.from_, .int .i64 r1.to_, .slice A3_0_drains r1.drains.length c3_0_drains]) rfl rfl⟩), ?_⟩
  replace H := H.pick (L' := [.own A3_0_drains c3_0_drains 52 3 (List.map encDrain ((r1.drains.set (Int.toNat a1) ((⟨x1.from_, x1.to_, a2⟩ : Drain)))))]) [1] (by decide) rfl
  replace R0 := H.ext
  exact ⟨A3_0_drains, c3_0_drains, (by first | rfl | (simp; done) | (simp; omega)), H⟩
set_option maxRecDepth 20000 in
set_option maxHeartbeats 1000000 in
theorem ref02_Widen_ok {a0 : Net} {a1 : Int} {a2 : Int} {A_a0_drains : Option Addr} {c_a0_drains : Nat} {w : World} {res : Net × Int} (h_a0_drains : Sl w A_a0_drains c_a0_drains 3 (a0.drains.map encDrain)) (F : ref02_Widen a0 a1 a2 = some res) : Calls Try.prog 42 #[.agg #[.int .i64 a0.nodes, .int .i64 a0.from_, .int .i64 a0.to_, .slice A_a0_drains a0.drains.length c_a0_drains], .int .i64 a1, .int .i64 a2] w (fun e w' => ∃ (A0_drains : Option Addr) (c0_drains : Nat), e = .returned (.tuple #[.agg #[.int .i64 res.1.nodes, .int .i64 res.1.from_, .int .i64 res.1.to_, .slice A0_drains res.1.drains.length c0_drains], .int .i64 res.2]) ∧ Hp w w' [.own A0_drains c0_drains 52 3 (List.map encDrain res.1.drains)]) := by
  refine calls_of_cw (args := [.agg #[.int .i64 a0.nodes, .int .i64 a0.from_, .int .i64 a0.to_, .slice A_a0_drains a0.drains.length c_a0_drains], .int .i64 a1, .int .i64 a2]) Try.func42 rfl rfl rfl rfl ?_
  have H := Hp.start w
  have R0 := H.ext
  unfold ref02_Widen at F
  refine CW.seq fun K1 hK1 => ?_
  refine CW.region ?_
  refine LW.go rfl rfl (OW.box rfl fun b1 w1 N1 => ?_)
  replace H := H.new N1 N1.blk
  replace R0 := H.ext
  refine LW.go rfl rfl (OW.alloc Tz24 fun b2 w2 N2 => ?_)
  replace H := H.new N2 N2.blk
  replace R0 := H.ext
  refine LW.pure rfl rfl (RV.assign rfl) ?_
  refine LW.nil (hK1 _ _ ?_)
  refine CW.seq fun K2 hK2 => ?_
  refine CW.seq fun K3 hK3 => ?_
  obtain ⟨r2, hr2, F⟩ := bnd_some F
  refine CW.region ?_
  refine LW.pure rfl rfl (RV.loadA [.int .i64 a0.nodes, .int .i64 a0.from_, .int .i64 a0.to_, .slice A_a0_drains a0.drains.length c_a0_drains] Tk24 rfl (H.blk 1 rfl).cells rfl rfl) ?_
  refine LW.go rfl rfl (OW.call Tc27 rfl (ref02_Validate_ok (a0 := a0) (h_a0_drains.ext R0) hr2) ?_)
  rintro _ w3 ⟨rfl, E1⟩
  refine ⟨_, rfl, ?_⟩
  replace H := H.grow E1
  replace R0 := H.ext
  refine LW.pure rfl rfl (RV.assign rfl) ?_
  refine LW.nil (hK3 _ _ ?_)
  refine CW.seq fun K4 hK4 => ?_
  refine CW.region ?_
  refine LW.pure rfl rfl (RV.move rfl) ?_
  refine LW.pure rfl rfl (RV.nei rfl rfl) ?_
  refine LW.nil (hK4 _ _ ?_)
  by_cases hp1 : r2 = 0
  ·
    replace F := ite_y hp1 F
    have hq1 := dec_t hp1
    refine CW.condF rfl (not_f hq1) ?_
    refine CW.skip (hK2 _ _ ?_)
    refine CW.seq fun K5 hK5 => ?_
    refine CW.seq fun K6 hK6 => ?_
    obtain ⟨hg1, F⟩ := gd_some F
    obtain ⟨r3, hr3, F⟩ := bnd_some F
    refine CW.region ?_
    refine LW.pure rfl rfl (RV.move rfl) ?_
    refine LW.pure rfl rfl (RV.fieldAddr Tf24_3 rfl) ?_
    refine LW.pure rfl rfl (RV.load1 Tk22 rfl ((H.blk 1 rfl).cells.off 3) rfl) ?_
    refine LW.pure rfl rfl (RV.len Ts22 rfl) ?_
    refine LW.pure rfl rfl (RV.sub rfl rfl hg1) ?_
    refine LW.go rfl rfl (OW.call Tc60 rfl (ref02_within_ok (a0 := a1) (a1 := (0 : Int)) (a2 := ((a0.drains.length : Int)) - 1) hr3) ?_)
    rintro _ w4 ⟨rfl, E2⟩
    refine ⟨_, rfl, ?_⟩
    replace H := H.grow E2
    replace R0 := H.ext
    refine LW.pure rfl rfl (RV.not rfl) ?_
    refine LW.nil (hK6 _ _ ?_)
    by_cases hp2 : r3 = true
    ·
      replace F := ite_y hp2 F
      have hq2 : r3 = true := hp2
      refine CW.condF rfl (not_f hq2) ?_
      refine CW.skip (hK5 _ _ ?_)
      refine CW.seq fun K7 hK7 => ?_
      refine CW.seqJ (fun ρ wl1 => (∃ (t37_1 : Bool), ref02_Widen_k1 a0 a1 a2 t37_1 = some res ∧ ρ = [(1, .int .i64 a1), (2, .int .i64 a2), (3, .pointer (some (⟨b1, 0, none⟩))), (6, .pointer (some (⟨b2, 0, none⟩))), (7, .int .i64 0), (37, .bool t37_1)] ∧ Hp w wl1 [.blk b1 24 [.int .i64 a0.nodes, .int .i64 a0.from_, .int .i64 a0.to_, .slice A_a0_drains a0.drains.length c_a0_drains], .blk b2 24 [.int .i64 0, .int .i64 0, .int .i64 0, .slice none 0 0]])) ?_ ?_
      ·
        rintro _ wl1 ⟨t37_1, F, rfl, H⟩
        have R0 := H.ext
        unfold ref02_Widen_k1 at F
        by_cases hp3 : t37_1 = true
        ·
          replace F := ite_y hp3 F
          have hq3 : t37_1 = true := hp3
          refine CW.condT rfl hq3 ?_
          refine CW.seq fun K8 hK8 => ?_
          refine CW.region ?_
          refine LW.pure rfl rfl (RV.build (vs := []) (cs := [.int .i64 0, .int .i64 0, .int .i64 0, .slice none 0 0]) rfl (fun _ => by kernel_rfl)) ?_
          refine LW.go rfl rfl (OW.store Tk24 rfl rfl (H.blk 1 rfl) (off := 0) (vs := [.int .i64 0, .int .i64 0, .int .i64 0, .slice none 0 0]) rfl rfl rfl rfl rfl fun w5 S1 => ?_)
          replace H : Hp w w5 [.blk b1 24 [.int .i64 a0.nodes, .int .i64 a0.from_, .int .i64 a0.to_, .slice A_a0_drains a0.drains.length c_a0_drains], .blk b2 24 [.int .i64 0, .int .i64 0, .int .i64 0, .slice none 0 0]] := H.stored 1 rfl S1
          replace R0 := H.ext
          refine LW.pure rfl rfl (RV.assign rfl) ?_
          refine LW.nil (hK8 _ _ ?_)
          refine CW.ret ?_
          obtain rfl := Option.some.inj F
          refine ⟨_, (ResOK.two ⟨_, rfl, run_loadVar_agg Tk24 (H.blk 1 rfl).cells (us := [.int .i64 0, .int .i64 0, .int .i64 0, .slice none 0 0]) rfl rfl⟩ rfl), ?_⟩
          replace H := H.nilOwn 52 3
          replace R0 := H.ext
          replace H := H.pick (L' := [.own none 0 52 3 (List.map encDrain (([] : List Drain)))]) [0] (by decide) rfl
          replace R0 := H.ext
          exact ⟨none, 0, (by first | rfl | (simp; done) | (simp; omega)), H⟩
        ·
          replace F := ite_n hp3 F
          have hq3 : t37_1 = false := raw_f hp3
          refine CW.condF rfl hq3 ?_
          refine CW.skip (hK7 _ _ ?_)
          refine CW.seq fun K9 hK9 => ?_
          obtain ⟨x1, hbx1, hx1, F⟩ := ix_some F
          obtain ⟨hg2, F⟩ := gd_some F
          obtain ⟨r1, hr1, F⟩ := bnd_some F
          refine CW.draw [11] (fun _ => True) (.cons 0 1 (.cons 1 1 (.cons 2 1 (.cons 3 1 (.cons 4 1 (.cons 5 1 (.cons 6 1 (.cons 7 1 (.cons 8 1 (.cons 9 1 (.cons 10 0 (.cons 11 0 (.cons 12 2 .nil))))))))))))) mixed (by kernel_rfl) fun w6 E3 => ?_
          replace H := H.grow E3
          replace R0 := H.ext
          refine DW.fix rfl rfl rfl (fun _ EQ => RV.loadA [.int .i64 a0.nodes, .int .i64 a0.from_, .int .i64 a0.to_, .slice A_a0_drains a0.drains.length c_a0_drains] Tk24 rfl ((H.grow EQ).blk 0 rfl).cells rfl rfl) ?_
          refine DW.fix rfl rfl rfl (fun _ EQ => RV.move rfl) ?_
          refine DW.fix rfl rfl rfl (fun _ EQ => RV.fieldAddr Tf24_3 rfl) ?_
          refine DW.fix rfl rfl rfl (fun _ EQ => RV.load1 Tk22 rfl (((H.grow EQ).blk 0 rfl).cells.off 3) rfl) ?_
          refine DW.fix rfl rfl rfl (fun _ EQ => RV.move rfl) ?_
          refine DW.fix rfl rfl rfl (fun _ EQ => RV.indexAddr Ts22 rfl rfl hbx1 (h_a0_drains.addr_ hx1)) ?_
          refine DW.fix rfl rfl rfl (fun _ EQ => RV.fieldAddr Tf52_2 rfl) ?_
          refine DW.fix rfl rfl rfl (fun _ EQ => RV.load1 Tk3 rfl (((h_a0_drains.at_ hx1).ext (R0.trans EQ)).off 2) rfl) ?_
          refine DW.fix rfl rfl rfl (fun _ EQ => RV.move rfl) ?_
          refine DW.fix rfl rfl rfl (fun _ EQ => RV.add rfl rfl hg2) ?_
          refine DW.sole rfl rfl rfl (OW.call Tc81 rfl (ref02_wide_ok (a0 := a0) (a1 := a1) (a2 := x1.width + a2) (h_a0_drains.ext R0) hr1) ?_)
          rintro _ w7 ⟨A15_0_drains, c15_0_drains, rfl, E4⟩
          refine ⟨_, rfl, fun _ => E4.ext, ModX.ext E4.ext, ?_⟩
          replace H : Hp w w7 [.own A15_0_drains c15_0_drains 52 3 (List.map encDrain r1.drains), .blk b1 24 [.int .i64 a0.nodes, .int .i64 a0.from_, .int .i64 a0.to_, .slice A_a0_drains a0.drains.length c_a0_drains], .blk b2 24 [.int .i64 0, .int .i64 0, .int .i64 0, .slice none 0 0]] := H.append E4
          replace R0 := H.ext
          refine DW.sole rfl rfl rfl (OW.store Tk24 rfl rfl (H.blk 2 rfl) (off := 0) (vs := [.int .i64 r1.nodes, .int .i64 r1.from_, .int .i64 r1.to_, .slice A15_0_drains r1.drains.length c15_0_drains]) rfl rfl rfl rfl rfl fun w8 S2 => ?_)
          refine ⟨fun h => absurd h (by decide), S2.modx trivial, ?_⟩
          replace H : Hp w w8 [.own A15_0_drains c15_0_drains 52 3 (List.map encDrain r1.drains), .blk b1 24 [.int .i64 a0.nodes, .int .i64 a0.from_, .int .i64 a0.to_, .slice A_a0_drains a0.drains.length c_a0_drains], .blk b2 24 [.int .i64 r1.nodes, .int .i64 r1.from_, .int .i64 r1.to_, .slice A15_0_drains r1.drains.length c15_0_drains]] := H.stored 2 rfl S2
          replace R0 := H.ext
          refine DW.thru rfl rfl rfl (fun _ EQ => RV.assign rfl) ?_
          refine DW.nil (hK9 _ _ ?_)
          refine CW.ret ?_
          obtain rfl := Option.some.inj F
          refine ⟨_, (ResOK.two ⟨_, rfl, run_loadVar_agg Tk24 (H.blk 2 rfl).cells (us := [.int .i64 r1.nodes, .int .i64 r1.from_, .int .i64 r1.to_, .slice A15_0_drains r1.drains.length c15_0_drains]) rfl rfl⟩ rfl), ?_⟩
          replace H := H.pick (L' := [.own A15_0_drains c15_0_drains 52 3 (List.map encDrain r1.drains)]) [0] (by decide) rfl
          replace R0 := H.ext
          exact ⟨A15_0_drains, c15_0_drains, (by first | rfl | (simp; done) | (simp; omega)), H⟩
      ·
        intro K10 hK10 jK22
        obtain ⟨r4, hr4, F⟩ := bnd_some F
        by_cases hp4 : r4 = true
        ·
          replace F := ite_y hp4 F
          have hq4 : r4 = true := hp4
          obtain ⟨x2, hbx2, hx2, F⟩ := ix_some F
          obtain ⟨hg3, F⟩ := gd_some F
          obtain ⟨r5, hr5, F⟩ := bnd_some F
          refine CW.region ?_
          refine LW.pure rfl rfl (RV.move rfl) ?_
          refine LW.go rfl rfl (OW.call Tc60 rfl (ref02_within_ok (a0 := a2) (a1 := (-20 : Int)) (a2 := (20 : Int)) hr4) ?_)
          rintro _ w9 ⟨rfl, E5⟩
          refine ⟨_, rfl, ?_⟩
          replace H := H.grow E5
          replace R0 := H.ext
          refine LW.pure rfl rfl (RV.not rfl) ?_
          refine LW.pure rfl rfl (RV.move rfl) ?_
          refine LW.pureYB rfl rfl rfl rfl (not_f hq4) (RV.fieldAddr Tf24_3 rfl) ?_
          refine LW.pureYB rfl rfl rfl rfl (not_f hq4) (RV.load1 Tk22 rfl ((H.blk 1 rfl).cells.off 3) rfl) ?_
          refine LW.pureYB rfl rfl rfl rfl (not_f hq4) (RV.move rfl) ?_
          refine LW.pureYB rfl rfl rfl rfl (not_f hq4) (RV.indexAddr Ts22 rfl rfl hbx2 (h_a0_drains.addr_ hx2)) ?_
          refine LW.pureYB rfl rfl rfl rfl (not_f hq4) (RV.fieldAddr Tf52_2 rfl) ?_
          refine LW.pureYB rfl rfl rfl rfl (not_f hq4) (RV.load1 Tk3 rfl (((h_a0_drains.at_ hx2).ext R0).off 2) rfl) ?_
          refine LW.pureYB rfl rfl rfl rfl (not_f hq4) (RV.move rfl) ?_
          refine LW.pureYB rfl rfl rfl rfl (not_f hq4) (RV.add rfl rfl hg3) ?_
          refine LW.yesB rfl rfl rfl rfl (not_f hq4) (OW.call Tc60 rfl (ref02_within_ok (a0 := x2.width + a2) (a1 := (0 : Int)) (a2 := (20 : Int)) hr5) ?_)
          rintro _ w10 ⟨rfl, E6⟩
          refine ⟨_, rfl, ?_⟩
          replace H := H.grow E6
          replace R0 := H.ext
          refine LW.pureYB rfl rfl rfl rfl (not_f hq4) (RV.not rfl) ?_
          refine LW.pure rfl rfl (RV.pickFB rfl (not_f hq4) rfl) ?_
          replace H := H.pick (L' := [.blk b1 24 [.int .i64 a0.nodes, .int .i64 a0.from_, .int .i64 a0.to_, .slice A_a0_drains a0.drains.length c_a0_drains], .blk b2 24 [.int .i64 0, .int .i64 0, .int .i64 0, .slice none 0 0]]) [1, 0] (by decide) rfl
          replace R0 := H.ext
          refine LW.nil (jK22 _ _ ⟨_, ?_, ⟨(!r5), F, rfl, H⟩⟩)
          exact ⟨rfl, rfl, rfl, rfl, rfl, rfl, trivial⟩
        ·
          replace F := ite_n hp4 F
          have hq4 : r4 = false := raw_f hp4
          refine CW.region ?_
          refine LW.pure rfl rfl (RV.move rfl) ?_
          refine LW.go rfl rfl (OW.call Tc60 rfl (ref02_within_ok (a0 := a2) (a1 := (-20 : Int)) (a2 := (20 : Int)) hr4) ?_)
          rintro _ w11 ⟨rfl, E7⟩
          refine ⟨_, rfl, ?_⟩
          replace H := H.grow E7
          replace R0 := H.ext
          refine LW.pure rfl rfl (RV.not rfl) ?_
          refine LW.pure rfl rfl (RV.move rfl) ?_
          refine LW.noB rfl rfl rfl rfl (ne_beq (v := true) (not_t hq4) rfl) ?_
          refine LW.noB rfl rfl rfl rfl (ne_beq (v := true) (not_t hq4) rfl) ?_
          refine LW.noB rfl rfl rfl rfl (ne_beq (v := true) (not_t hq4) rfl) ?_
          refine LW.noB rfl rfl rfl rfl (ne_beq (v := true) (not_t hq4) rfl) ?_
          refine LW.noB rfl rfl rfl rfl (ne_beq (v := true) (not_t hq4) rfl) ?_
          refine LW.noB rfl rfl rfl rfl (ne_beq (v := true) (not_t hq4) rfl) ?_
          refine LW.noB rfl rfl rfl rfl (ne_beq (v := true) (not_t hq4) rfl) ?_
          refine LW.noB rfl rfl rfl rfl (ne_beq (v := true) (not_t hq4) rfl) ?_
          refine LW.noB rfl rfl rfl rfl (ne_beq (v := true) (not_t hq4) rfl) ?_
          refine LW.noB rfl rfl rfl rfl (ne_beq (v := true) (not_t hq4) rfl) ?_
          refine LW.pure rfl rfl (RV.pickTB rfl (not_t hq4) rfl) ?_
          replace H := H.pick (L' := [.blk b1 24 [.int .i64 a0.nodes, .int .i64 a0.from_, .int .i64 a0.to_, .slice A_a0_drains a0.drains.length c_a0_drains], .blk b2 24 [.int .i64 0, .int .i64 0, .int .i64 0, .slice none 0 0]]) [1, 0] (by decide) rfl
          replace R0 := H.ext
          refine LW.nil (jK22 _ _ ⟨_, ?_, ⟨true, F, rfl, H⟩⟩)
          exact ⟨rfl, rfl, rfl, rfl, rfl, rfl, trivial⟩
    ·
      replace F := ite_n hp2 F
      have hq2 : r3 = false := raw_f hp2
      refine CW.condT rfl (not_t hq2) ?_
      refine CW.seq fun K11 hK11 => ?_
      refine CW.region ?_
      refine LW.pure rfl rfl (RV.build (vs := []) (cs := [.int .i64 0, .int .i64 0, .int .i64 0, .slice none 0 0]) rfl (fun _ => by kernel_rfl)) ?_
      refine LW.go rfl rfl (OW.store Tk24 rfl rfl (H.blk 0 rfl) (off := 0) (vs := [.int .i64 0, .int .i64 0, .int .i64 0, .slice none 0 0]) rfl rfl rfl rfl rfl fun w12 S3 => ?_)
      replace H : Hp w w12 [.blk b2 24 [.int .i64 0, .int .i64 0, .int .i64 0, .slice none 0 0], .blk b1 24 [.int .i64 a0.nodes, .int .i64 a0.from_, .int .i64 a0.to_, .slice A_a0_drains a0.drains.length c_a0_drains]] := H.stored 0 rfl S3
      replace R0 := H.ext
      refine LW.pure rfl rfl (RV.assign rfl) ?_
      refine LW.nil (hK11 _ _ ?_)
      refine CW.ret ?_
      obtain rfl := Option.some.inj F
      refine ⟨_, (ResOK.two ⟨_, rfl, run_loadVar_agg Tk24 (H.blk 0 rfl).cells (us := [.int .i64 0, .int .i64 0, .int .i64 0, .slice none 0 0]) rfl rfl⟩ rfl), ?_⟩
      replace H := H.nilOwn 52 3
      replace R0 := H.ext
      replace H := H.pick (L' := [.own none 0 52 3 (List.map encDrain (([] : List Drain)))]) [0] (by decide) rfl
      replace R0 := H.ext
      exact ⟨none, 0, (by first | rfl | (simp; done) | (simp; omega)), H⟩
  ·
    replace F := ite_n hp1 F
    have hq1 := dec_f hp1
    refine CW.condT rfl (not_t hq1) ?_
    refine CW.seq fun K12 hK12 => ?_
    refine CW.region ?_
    refine LW.pure rfl rfl (RV.build (vs := []) (cs := [.int .i64 0, .int .i64 0, .int .i64 0, .slice none 0 0]) rfl (fun _ => by kernel_rfl)) ?_
    refine LW.pure rfl rfl (RV.move rfl) ?_
    refine LW.go rfl rfl (OW.store Tk24 rfl rfl (H.blk 0 rfl) (off := 0) (vs := [.int .i64 0, .int .i64 0, .int .i64 0, .slice none 0 0]) rfl rfl rfl rfl rfl fun w13 S4 => ?_)
    replace H : Hp w w13 [.blk b2 24 [.int .i64 0, .int .i64 0, .int .i64 0, .slice none 0 0], .blk b1 24 [.int .i64 a0.nodes, .int .i64 a0.from_, .int .i64 a0.to_, .slice A_a0_drains a0.drains.length c_a0_drains]] := H.stored 0 rfl S4
    replace R0 := H.ext
    refine LW.pure rfl rfl (RV.assign rfl) ?_
    refine LW.nil (hK12 _ _ ?_)
    refine CW.ret ?_
    obtain rfl := Option.some.inj F
    refine ⟨_, (ResOK.two ⟨_, rfl, run_loadVar_agg Tk24 (H.blk 0 rfl).cells (us := [.int .i64 0, .int .i64 0, .int .i64 0, .slice none 0 0]) rfl rfl⟩ rfl), ?_⟩
    replace H := H.nilOwn 52 3
    replace R0 := H.ext
    replace H := H.pick (L' := [.own none 0 52 3 (List.map encDrain (([] : List Drain)))]) [0] (by decide) rfl
    replace R0 := H.ext
    exact ⟨none, 0, (by first | rfl | (simp; done) | (simp; omega)), H⟩
set_option maxRecDepth 20000 in
set_option maxHeartbeats 1000000 in
theorem drain_Wanted_1_ok {cap0 : Net} {cap1 : Int} {a0 : Int} {A_cap0_drains : Option Addr} {c_cap0_drains : Nat} {b_cap0 : Nat} {b_cap1 : Nat} {w : World} {res : Bool} (h_cap0_drains : Sl w A_cap0_drains c_cap0_drains 3 (cap0.drains.map encDrain)) (hc_cap0 : Cells w ⟨b_cap0, 0, none⟩ [.int .i64 cap0.nodes, .int .i64 cap0.from_, .int .i64 cap0.to_, .slice A_cap0_drains cap0.drains.length c_cap0_drains]) (hc_cap1 : Cells w ⟨b_cap1, 0, none⟩ [.int .i64 cap1]) (F : drain_Wanted_1 cap0 cap1 a0 = some res) : Calls Try.prog 83 #[.int .i64 a0, .pointer (some (⟨b_cap0, 0, none⟩)), .pointer (some (⟨b_cap1, 0, none⟩))] w (Rt w (.bool res)) := by
  refine calls_of_cw (args := [.int .i64 a0, .pointer (some (⟨b_cap0, 0, none⟩)), .pointer (some (⟨b_cap1, 0, none⟩))]) Try.func83 rfl rfl rfl rfl ?_
  have H := Hp.start w
  have R0 := H.ext
  unfold drain_Wanted_1 at F
  refine CW.seq fun K1 hK1 => ?_
  refine CW.region ?_
  refine LW.pure rfl rfl (RV.assign rfl) ?_
  refine LW.nil (hK1 _ _ ?_)
  refine CW.seq fun K2 hK2 => ?_
  obtain ⟨x1, hbx1, hx1, F⟩ := ix_some F
  obtain ⟨hg1, F⟩ := gd_some F
  obtain ⟨r1, hr1, F⟩ := bnd_some F
  obtain ⟨r2, hr2, F⟩ := bnd_some F
  refine CW.draw [] (fun _ => True) (.cons 0 1 (.cons 1 1 (.cons 2 1 (.cons 3 1 (.cons 4 1 (.cons 5 1 (.cons 6 1 (.cons 7 1 (.cons 8 1 (.cons 11 1 (.cons 9 0 (.cons 10 0 (.cons 12 1 (.cons 13 1 .nil)))))))))))))) mixed (by kernel_rfl) fun w1 E1 => ?_
  replace H := H.grow E1
  replace R0 := H.ext
  refine DW.fix rfl rfl rfl (fun _ EQ => RV.loadA [.int .i64 cap0.nodes, .int .i64 cap0.from_, .int .i64 cap0.to_, .slice A_cap0_drains cap0.drains.length c_cap0_drains] Tk24 rfl (hc_cap0.ext (R0.trans EQ)) rfl rfl) ?_
  refine DW.fix rfl rfl rfl (fun _ EQ => RV.move rfl) ?_
  refine DW.fix rfl rfl rfl (fun _ EQ => RV.fieldAddr Tf24_3 rfl) ?_
  refine DW.fix rfl rfl rfl (fun _ EQ => RV.load1 Tk22 rfl ((hc_cap0.ext (R0.trans EQ)).off 3) rfl) ?_
  refine DW.fix rfl rfl rfl (fun _ EQ => RV.move rfl) ?_
  refine DW.fix rfl rfl rfl (fun _ EQ => RV.indexAddr Ts22 rfl rfl hbx1 (h_cap0_drains.addr_ hx1)) ?_
  refine DW.fix rfl rfl rfl (fun _ EQ => RV.fieldAddr Tf52_2 rfl) ?_
  refine DW.fix rfl rfl rfl (fun _ EQ => RV.load1 Tk3 rfl (((h_cap0_drains.at_ hx1).ext (R0.trans EQ)).off 2) rfl) ?_
  refine DW.fix rfl rfl rfl (fun _ EQ => RV.add rfl rfl hg1) ?_
  refine DW.fix rfl rfl rfl (fun _ EQ => RV.load1 Tk3 rfl (hc_cap1.ext (R0.trans EQ)) rfl) ?_
  refine DW.sole rfl rfl rfl (OW.call Tc80 rfl (drain_changed_ok (a0 := cap0) (a1 := a0) (a2 := x1.width + 1) (h_cap0_drains.ext R0) hr1) ?_)
  rintro _ w2 ⟨A5_0_drains, c5_0_drains, rfl, E2⟩
  refine ⟨_, rfl, fun _ => E2.ext, ModX.ext E2.ext, ?_⟩
  replace H : Hp w w2 [.own A5_0_drains c5_0_drains 52 3 (List.map encDrain r1.drains)] := H.append E2
  replace R0 := H.ext
  refine DW.sole rfl rfl rfl (OW.call Tc56 rfl (drain_most_ok (a0 := r1) (H.own 0 rfl).sl hr2) ?_)
  rintro _ w3 ⟨rfl, E3⟩
  refine ⟨_, rfl, fun _ => E3, ModX.ext E3, ?_⟩
  replace H := H.grow E3
  replace R0 := H.ext
  refine DW.fix rfl rfl rfl (fun _ EQ => RV.gtr rfl rfl) ?_
  refine DW.fix rfl rfl rfl (fun _ EQ => RV.assign rfl) ?_
  refine DW.nil (hK2 _ _ ?_)
  refine CW.ret ?_
  obtain rfl := Option.some.inj F
  refine ⟨_, (ResOK.one rfl), ?_⟩
  refine ⟨(by first | rfl | simp), R0⟩
set_option maxRecDepth 20000 in
set_option maxHeartbeats 1000000 in
theorem drain_those_ok {a0 : Net} {a1 : Int → Option Bool} {A_a0_drains : Option Addr} {c_a0_drains : Nat} {f_a1 : Nat} {p_a1 : Array Value} {q_a1 : Array Value} {w : World} {res : (List Int)} (h_a0_drains : Sl w A_a0_drains c_a0_drains 3 (a0.drains.map encDrain)) (h_a1 : ∀ (x0 : Int) (r : Bool), a1 x0 = some r → ∀ w1, Ext w w1 → CallsV Try.prog f_a1 p_a1 q_a1 #[.int .i64 x0] w1 (Rt w1 (.bool r))) (F : drain_those a0 a1 = some res) : Calls Try.prog 82 #[.agg #[.int .i64 a0.nodes, .int .i64 a0.from_, .int .i64 a0.to_, .slice A_a0_drains a0.drains.length c_a0_drains], .func (.func f_a1) p_a1 q_a1] w (fun e w' => ∃ (A1 : Option Addr) (c1 : Nat), e = .returned (.slice A1 res.length c1) ∧ Hp w w' [.own A1 c1 3 1 (List.map encN res)]) := by
  refine calls_of_cw (args := [.agg #[.int .i64 a0.nodes, .int .i64 a0.from_, .int .i64 a0.to_, .slice A_a0_drains a0.drains.length c_a0_drains], .func (.func f_a1) p_a1 q_a1]) Try.func82 rfl rfl rfl rfl ?_
  have H := Hp.start w
  have R0 := H.ext
  unfold drain_those at F
  refine CW.seq fun K1 hK1 => ?_
  refine CW.region ?_
  refine LW.go rfl rfl (OW.box rfl fun b1 w2 N1 => ?_)
  replace H := H.new N1 N1.blk
  replace R0 := H.ext
  refine LW.pure rfl rfl (RV.assign rfl) ?_
  refine LW.nil (hK1 _ _ ?_)
  refine CW.seq fun K2 hK2 => ?_
  refine CW.region ?_
  refine LW.pure rfl rfl (RV.assign rfl) ?_
  refine LW.nil (hK2 _ _ ?_)
  refine CW.seqJ (fun ρ wl1 => (∃ (l1 : List Int) (Al1 : Option Addr) (cl1 : Nat), drain_those_k1 l1 = some res ∧ ρ = [(4, .slice none 0 0), (5, .slice Al1 l1.length cl1)] ∧ Hp w wl1 [.own Al1 cl1 3 1 (List.map encN l1)])) ?_ ?_
  ·
    rintro _ wl1 ⟨l1, Al1, cl1, F, rfl, H⟩
    have R0 := H.ext
    unfold drain_those_k1 at F
    refine CW.seq fun K3 hK3 => ?_
    refine CW.region ?_
    refine LW.pure rfl rfl (RV.move rfl) ?_
    refine LW.pure rfl rfl (RV.assign rfl) ?_
    refine LW.nil (hK3 _ _ ?_)
    refine CW.ret ?_
    obtain rfl := Option.some.inj F
    refine ⟨_, (ResOK.one rfl), ?_⟩
    exact ⟨Al1, cl1, (by first | rfl | (simp; done) | (simp; omega)), H⟩
  ·
    intro K4 hK4 jK74
    refine CW.seq fun K5 hK5 => ?_
    refine CW.region ?_
    refine LW.pure rfl rfl (RV.fieldAddr Tf24_3 rfl) ?_
    refine LW.pure rfl rfl (RV.load1 Tk22 rfl ((H.blk 0 rfl).cells.off 3) rfl) ?_
    refine LW.pure rfl rfl (RV.len Ts22 rfl) ?_
    refine LW.pure rfl rfl (RV.move rfl) ?_
    refine LW.nil (hK5 _ _ ?_)
    refine CW.block ?_
    replace H := H.nilOwn 3 1
    replace R0 := H.ext
    replace H := H.pick (L' := [.own none 0 3 1 (List.map encN (([] : List Int)))]) [0] (by decide) rfl
    replace R0 := H.ext
    refine CW.loop (fun meas ρ wl2 => ∃ (t10_1 : Int) (l3 : List Int) (Al3 : Option Addr) (cl3 : Nat), drain_those_L1 a0 a1 meas t10_1 l3 = some res ∧ ρ = [(1, .func (.func f_a1) p_a1 q_a1), (4, .slice none 0 0), (5, .slice Al3 l3.length cl3), (9, .int .i64 ((a0.drains.length : Int))), (10, .int .i64 t10_1)] ∧ Hp w wl2 [.own Al3 cl3 3 1 (List.map encN l3)]) FU ⟨_, ?_, ((0 : Int)), (([] : List Int)), none, 0, F, rfl, H⟩ ?_
    · exact ⟨rfl, rfl, (look_slice rfl (by first | rfl | (simp; done) | (simp; omega))), rfl, rfl, trivial⟩
    rintro mk1 _ wl2 ⟨t10_1, l3, Al3, cl3, F, rfl, H⟩
    have R0 := H.ext
    replace F := drain_those_L1_s F
    obtain ⟨mk1, rfl, F⟩ := F
    generalize hrec1 : drain_those_L1 a0 a1 mk1 = rec1 at F
    unfold drain_those_B1 at F
    refine CW.seq fun K6 hK6 => ?_
    refine CW.region ?_
    refine LW.pure rfl rfl (RV.lss rfl rfl) ?_
    refine LW.nil (hK6 _ _ ?_)
    refine CW.seq fun K7 hK7 => ?_
    by_cases hp1 : t10_1 < ((a0.drains.length : Int))
    ·
      replace F := ite_y hp1 F
      have hq1 := dec_t hp1
      refine CW.condT rfl hq1 ?_
      refine CW.skip (hK7 _ _ ?_)
      refine CW.seqJ (fun ρ wl3 => (∃ (l2 : List Int) (Al2 : Option Addr) (cl2 : Nat), drain_those_k2 t10_1 rec1 l2 = some res ∧ ρ = [(1, .func (.func f_a1) p_a1 q_a1), (4, .slice none 0 0), (5, .slice Al2 l2.length cl2), (9, .int .i64 ((a0.drains.length : Int))), (10, .int .i64 t10_1)] ∧ Hp w wl3 [.own Al2 cl2 3 1 (List.map encN l2)])) ?_ ?_
      ·
        rintro _ wl3 ⟨l2, Al2, cl2, F, rfl, H⟩
        have R0 := H.ext
        unfold drain_those_k2 at F
        obtain ⟨hg1, F⟩ := gd_some F
        refine CW.region ?_
        refine LW.pure rfl rfl (RV.add rfl rfl hg1) ?_
        refine LW.pure rfl rfl (RV.move rfl) ?_
        refine LW.nil ?_
        subst hrec1
        refine ⟨mk1, Nat.lt_succ_self _, _, ?_, (t10_1 + 1), l2, Al2, cl2, F, rfl, H⟩
        exact ⟨rfl, rfl, (look_slice rfl (by first | rfl | (simp; done) | (simp; omega))), rfl, rfl, trivial⟩
      ·
        intro K8 hK8 jK94
        refine CW.block ?_
        refine CW.seq fun K9 hK9 => ?_
        refine CW.region ?_
        refine LW.pure rfl rfl (RV.move rfl) ?_
        refine LW.pure rfl rfl (RV.assign rfl) ?_
        refine LW.nil (hK9 _ _ ?_)
        refine CW.seq fun K10 hK10 => ?_
        obtain ⟨r1, hr1, F⟩ := bnd_some F
        refine CW.region ?_
        refine LW.pure rfl rfl (RV.move rfl) ?_
        refine LW.pure rfl rfl (RV.move rfl) ?_
        refine LW.go rfl rfl (OW.callV2 rfl rfl rfl (h_a1 _ _ hr1 _ R0) ?_)
        rintro _ w3 ⟨rfl, E1⟩
        refine ⟨_, rfl, ?_⟩
        replace H := H.grow E1
        replace R0 := H.ext
        refine LW.nil (hK10 _ _ ?_)
        by_cases hp2 : r1 = true
        ·
          replace F := ite_y hp2 F
          have hq2 : r1 = true := hp2
          refine CW.condT rfl hq2 ?_
          obtain ⟨hg2, F⟩ := gd_some F
          refine CW.region ?_
          refine LW.pure rfl rfl (RV.move rfl) ?_
          refine LW.pure rfl rfl (RV.move rfl) ?_
          refine LW.go rfl rfl (OW.buildSlice (e := 3) (vs := [.int .i64 t10_1]) (cs := [.int .i64 t10_1]) rfl (fun _ => by kernel_rfl) fun b2 w4 N2 => ?_)
          replace H := H.made' (k := 1) (t := 3) (enc := encN) (l := ([t10_1] : List Int)) N2 N2.blk (fun _ => rfl) rfl (by first | decide | omega | (simp; done) | (simp; omega))
          replace R0 := H.ext
          refine LW.go rfl rfl (OW.appendG (enc := encN) (l := l3) (xs := ([t10_1] : List Int)) Ts30 rfl (look_slice rfl (by first | rfl | (simp; done) | (simp; omega))) (H.own 1 rfl) (H.own 0 rfl).sl (fun _ => rfl) rfl rfl hg2 (by decide) fun A2 c2 w5 O1 M1 D1 => ?_)
          replace H : Hp w w5 [.own (some ⟨b2, 0, none⟩) ((([t10_1] : List Int)).length) 3 1 (List.map encN (([t10_1] : List Int))), .own A2 c2 3 1 (List.map encN ((l3 ++ ([t10_1] : List Int))))] := H.mod 1 rfl M1 O1 D1
          replace R0 := H.ext
          refine LW.pure rfl rfl (RV.assign rfl) ?_
          replace H := H.pick (L' := [.own A2 c2 3 1 (List.map encN ((l3 ++ ([t10_1] : List Int))))]) [1] (by decide) rfl
          replace R0 := H.ext
          refine LW.nil (jK94 _ _ ⟨_, ?_, ⟨((l3 ++ ([t10_1] : List Int))), A2, c2, F, rfl, H⟩⟩)
          exact ⟨rfl, rfl, (look_slice rfl (by first | rfl | (simp; done) | (simp; omega))), rfl, rfl, trivial⟩
        ·
          replace F := ite_n hp2 F
          have hq2 : r1 = false := raw_f hp2
          refine CW.condF rfl hq2 ?_
          refine CW.skip (jK94 _ _ ⟨_, ?_, ⟨l3, Al3, cl3, F, rfl, H⟩⟩)
          exact ⟨rfl, rfl, (look_slice rfl (by first | rfl | (simp; done) | (simp; omega))), rfl, rfl, trivial⟩
    ·
      replace F := ite_n hp1 F
      have hq1 := dec_f hp1
      refine CW.condF rfl hq1 ?_
      refine CW.exit (jK74 _ _ ⟨_, ?_, ⟨l3, Al3, cl3, F, rfl, H⟩⟩)
      exact ⟨rfl, (look_slice rfl (by first | rfl | (simp; done) | (simp; omega))), trivial⟩
set_option maxRecDepth 20000 in
set_option maxHeartbeats 1000000 in
theorem drain_Wanted_ok {a0 : Net} {A_a0_drains : Option Addr} {c_a0_drains : Nat} {w : World} {res : (List Int) × Int} (h_a0_drains : Sl w A_a0_drains c_a0_drains 3 (a0.drains.map encDrain)) (F : drain_Wanted a0 = some res) : Calls Try.prog 43 #[.agg #[.int .i64 a0.nodes, .int .i64 a0.from_, .int .i64 a0.to_, .slice A_a0_drains a0.drains.length c_a0_drains]] w (fun e w' => ∃ (A0 : Option Addr) (c0 : Nat), e = .returned (.tuple #[.slice A0 res.1.length c0, .int .i64 res.2]) ∧ Hp w w' [.own A0 c0 3 1 (List.map encN res.1)]) := by
  refine calls_of_cw (args := [.agg #[.int .i64 a0.nodes, .int .i64 a0.from_, .int .i64 a0.to_, .slice A_a0_drains a0.drains.length c_a0_drains]]) Try.func43 rfl rfl rfl rfl ?_
  have H := Hp.start w
  have R0 := H.ext
  unfold drain_Wanted at F
  refine CW.seq fun K1 hK1 => ?_
  refine CW.region ?_
  refine LW.go rfl rfl (OW.box rfl fun b1 w1 N1 => ?_)
  replace H := H.new N1 N1.blk
  replace R0 := H.ext
  refine LW.pure rfl rfl (RV.assign rfl) ?_
  refine LW.pure rfl rfl (RV.assign rfl) ?_
  refine LW.nil (hK1 _ _ ?_)
  refine CW.seq fun K2 hK2 => ?_
  refine CW.seq fun K3 hK3 => ?_
  obtain ⟨r1, hr1, F⟩ := bnd_some F
  refine CW.region ?_
  refine LW.pure rfl rfl (RV.loadA [.int .i64 a0.nodes, .int .i64 a0.from_, .int .i64 a0.to_, .slice A_a0_drains a0.drains.length c_a0_drains] Tk24 rfl (H.blk 0 rfl).cells rfl rfl) ?_
  refine LW.go rfl rfl (OW.call Tc26 rfl (drain_Validate_ok (a0 := a0) (h_a0_drains.ext R0) hr1) ?_)
  rintro _ w2 ⟨rfl, E1⟩
  refine ⟨_, rfl, ?_⟩
  replace H := H.grow E1
  replace R0 := H.ext
  refine LW.pure rfl rfl (RV.assign rfl) ?_
  refine LW.nil (hK3 _ _ ?_)
  refine CW.seq fun K4 hK4 => ?_
  refine CW.region ?_
  refine LW.pure rfl rfl (RV.move rfl) ?_
  refine LW.pure rfl rfl (RV.nei rfl rfl) ?_
  refine LW.nil (hK4 _ _ ?_)
  by_cases hp1 : r1 = 0
  ·
    replace F := ite_y hp1 F
    have hq1 := dec_t hp1
    refine CW.condF rfl (not_f hq1) ?_
    refine CW.skip (hK2 _ _ ?_)
    refine CW.seq fun K5 hK5 => ?_
    obtain ⟨r2, hr2, F⟩ := bnd_some F
    refine CW.region ?_
    refine LW.pure rfl rfl (RV.loadA [.int .i64 a0.nodes, .int .i64 a0.from_, .int .i64 a0.to_, .slice A_a0_drains a0.drains.length c_a0_drains] Tk24 rfl (H.blk 0 rfl).cells rfl rfl) ?_
    refine LW.go rfl rfl (OW.call Tc56 rfl (drain_most_ok (a0 := a0) (h_a0_drains.ext R0) hr2) ?_)
    rintro _ w3 ⟨rfl, E2⟩
    refine ⟨_, rfl, ?_⟩
    replace H := H.grow E2
    replace R0 := H.ext
    refine LW.go rfl rfl (OW.alloc Tz3 fun b2 w4 N2 => ?_)
    replace H := H.new N2 N2.blk
    replace R0 := H.ext
    refine LW.go rfl rfl (OW.store Tk3 rfl rfl (H.blk 0 rfl) (off := 0) (vs := [.int .i64 r2]) rfl rfl rfl rfl rfl fun w5 S1 => ?_)
    replace H : Hp w w5 [.blk b2 3 [.int .i64 r2], .blk b1 24 [.int .i64 a0.nodes, .int .i64 a0.from_, .int .i64 a0.to_, .slice A_a0_drains a0.drains.length c_a0_drains]] := H.stored 0 rfl S1
    replace R0 := H.ext
    refine LW.nil (hK5 _ _ ?_)
    refine CW.seq fun K6 hK6 => ?_
    obtain ⟨r3, hr3, F⟩ := bnd_some F
    refine CW.region ?_
    refine LW.pure rfl rfl (RV.loadA [.int .i64 a0.nodes, .int .i64 a0.from_, .int .i64 a0.to_, .slice A_a0_drains a0.drains.length c_a0_drains] Tk24 rfl (H.blk 1 rfl).cells rfl rfl) ?_
    refine LW.pure rfl rfl (RV.makeFunc (fs := []) (cs := [.pointer (some (⟨b1, 0, none⟩)), .pointer (some (⟨b2, 0, none⟩))]) rfl rfl) ?_
    refine LW.go rfl rfl (OW.call Tc82 rfl (drain_those_ok (a0 := a0) (a1 := (fun x0 => drain_Wanted_1 a0 r2 x0)) (h_a0_drains.ext R0) (fun x0 r hF w6 hE => CallsV.cap Tc83 (by simp) (drain_Wanted_1_ok (cap0 := a0) (cap1 := r2) (a0 := x0) ((h_a0_drains.ext R0).ext hE) ((H.blk 1 rfl).cells.ext hE) ((H.blk 0 rfl).cells.ext hE) hF)) hr3) ?_)
    rintro _ w7 ⟨A9_0, c9_0, rfl, E3⟩
    refine ⟨_, rfl, ?_⟩
    replace H : Hp w w7 [.own A9_0 c9_0 3 1 (List.map encN r3), .blk b2 3 [.int .i64 r2], .blk b1 24 [.int .i64 a0.nodes, .int .i64 a0.from_, .int .i64 a0.to_, .slice A_a0_drains a0.drains.length c_a0_drains]] := H.append E3
    replace R0 := H.ext
    refine LW.pure rfl rfl (RV.assign rfl) ?_
    refine LW.pure rfl rfl (RV.assign rfl) ?_
    refine LW.nil (hK6 _ _ ?_)
    refine CW.ret ?_
    obtain rfl := Option.some.inj F
    refine ⟨_, (ResOK.two rfl rfl), ?_⟩
    replace H := H.pick (L' := [.own A9_0 c9_0 3 1 (List.map encN r3)]) [0] (by decide) rfl
    replace R0 := H.ext
    exact ⟨A9_0, c9_0, (by first | rfl | (simp; done) | (simp; omega)), H⟩
  ·
    replace F := ite_n hp1 F
    have hq1 := dec_f hp1
    refine CW.condT rfl (not_t hq1) ?_
    refine CW.seq fun K7 hK7 => ?_
    refine CW.region ?_
    refine LW.pure rfl rfl (RV.move rfl) ?_
    refine LW.pure rfl rfl (RV.assign rfl) ?_
    refine LW.pure rfl rfl (RV.assign rfl) ?_
    refine LW.nil (hK7 _ _ ?_)
    refine CW.ret ?_
    obtain rfl := Option.some.inj F
    refine ⟨_, (ResOK.two rfl rfl), ?_⟩
    replace H := H.nilOwn 3 1
    replace R0 := H.ext
    replace H := H.pick (L' := [.own none 0 3 1 (List.map encN (([] : List Int)))]) [0] (by decide) rfl
    replace R0 := H.ext
    exact ⟨none, 0, (by first | rfl | (simp; done) | (simp; omega)), H⟩
set_option maxRecDepth 20000 in
set_option maxHeartbeats 1000000 in
theorem law02_has_ok {a0 : List Int} {a1 : Int} {A_a0 : Option Addr} {c_a0 : Nat} {w : World} {res : Bool} (h_a0 : Sl w A_a0 c_a0 1 (a0.map encN)) (F : law02_has a0 a1 = some res) : Calls Try.prog 44 #[.slice A_a0 a0.length c_a0, .int .i64 a1] w (Rt w (.bool res)) := by
  refine calls_of_cw (args := [.slice A_a0 a0.length c_a0, .int .i64 a1]) Try.func44 rfl rfl rfl rfl ?_
  have H := Hp.start w
  have R0 := H.ext
  unfold law02_has at F
  refine CW.seq fun K1 hK1 => ?_
  refine CW.region ?_
  refine LW.pure rfl rfl (RV.assign rfl) ?_
  refine LW.nil (hK1 _ _ ?_)
  refine CW.seqJ (fun ρ wl1 => (law02_has_k1 = some res ∧ ρ = [(4, .bool false)] ∧ Hp w wl1 [])) ?_ ?_
  ·
    rintro _ wl1 ⟨F, rfl, H⟩
    have R0 := H.ext
    unfold law02_has_k1 at F
    refine CW.seq fun K2 hK2 => ?_
    refine CW.region ?_
    refine LW.pure rfl rfl (RV.assign rfl) ?_
    refine LW.nil (hK2 _ _ ?_)
    refine CW.ret ?_
    obtain rfl := Option.some.inj F
    refine ⟨_, (ResOK.one rfl), ?_⟩
    refine ⟨(by first | rfl | simp), R0⟩
  ·
    intro K3 hK3 jK54
    refine CW.seq fun K4 hK4 => ?_
    refine CW.region ?_
    refine LW.pure rfl rfl (RV.assign rfl) ?_
    refine LW.nil (hK4 _ _ ?_)
    refine CW.block ?_
    refine CW.loop (fun meas ρ wl2 => ∃ (t5_1 : Int), law02_has_L1 a0 a1 meas t5_1 = some res ∧ ρ = [(0, .slice A_a0 a0.length c_a0), (1, .int .i64 a1), (4, .bool false), (5, .int .i64 t5_1)] ∧ Hp w wl2 []) FU ⟨_, ?_, ((0 : Int)), F, rfl, H⟩ ?_
    · exact ⟨rfl, rfl, rfl, rfl, trivial⟩
    rintro mk1 _ wl2 ⟨t5_1, F, rfl, H⟩
    have R0 := H.ext
    replace F := law02_has_L1_s F
    obtain ⟨mk1, rfl, F⟩ := F
    generalize hrec1 : law02_has_L1 a0 a1 mk1 = rec1 at F
    unfold law02_has_B1 at F
    refine CW.seq fun K5 hK5 => ?_
    refine CW.seq fun K6 hK6 => ?_
    refine CW.region ?_
    refine LW.pure rfl rfl (RV.move rfl) ?_
    refine LW.pure rfl rfl (RV.move rfl) ?_
    refine LW.pure rfl rfl (RV.len Ts30 rfl) ?_
    refine LW.pure rfl rfl (RV.lss rfl rfl) ?_
    refine LW.nil (hK6 _ _ ?_)
    by_cases hp1 : t5_1 < ((a0.length : Int))
    ·
      replace F := ite_y hp1 F
      have hq1 := dec_t hp1
      refine CW.condT rfl hq1 ?_
      refine CW.skip (hK5 _ _ ?_)
      refine CW.seq fun K7 hK7 => ?_
      refine CW.block ?_
      refine CW.seq fun K8 hK8 => ?_
      obtain ⟨x1, hbx1, hx1, F⟩ := ix_some F
      refine CW.region ?_
      refine LW.pure rfl rfl (RV.move rfl) ?_
      refine LW.pure rfl rfl (RV.move rfl) ?_
      refine LW.pure rfl rfl (RV.indexAddr Ts30 rfl rfl hbx1 (h_a0.addr_ hx1)) ?_
      refine LW.pure rfl rfl (RV.load1 Tk3 rfl ((h_a0.at_ hx1).ext R0) rfl) ?_
      refine LW.pure rfl rfl (RV.move rfl) ?_
      refine LW.pure rfl rfl (RV.eqi rfl rfl) ?_
      refine LW.nil (hK8 _ _ ?_)
      by_cases hp2 : x1 = a1
      ·
        replace F := ite_y hp2 F
        have hq2 := dec_t hp2
        refine CW.condT rfl hq2 ?_
        refine CW.seq fun K9 hK9 => ?_
        refine CW.region ?_
        refine LW.pure rfl rfl (RV.assign rfl) ?_
        refine LW.nil (hK9 _ _ ?_)
        refine CW.ret ?_
        obtain rfl := Option.some.inj F
        refine ⟨_, (ResOK.one rfl), ?_⟩
        refine ⟨(by first | rfl | simp), R0⟩
      ·
        replace F := ite_n hp2 F
        have hq2 := dec_f hp2
        refine CW.condF rfl hq2 ?_
        refine CW.skip (hK7 _ _ ?_)
        obtain ⟨hg1, F⟩ := gd_some F
        refine CW.region ?_
        refine LW.pure rfl rfl (RV.move rfl) ?_
        refine LW.pure rfl rfl (RV.add rfl rfl hg1) ?_
        refine LW.pure rfl rfl (RV.assign rfl) ?_
        refine LW.nil ?_
        subst hrec1
        refine ⟨mk1, Nat.lt_succ_self _, _, ?_, (t5_1 + 1), F, rfl, H⟩
        exact ⟨rfl, rfl, rfl, rfl, trivial⟩
    ·
      replace F := ite_n hp1 F
      have hq1 := dec_f hp1
      refine CW.condF rfl hq1 ?_
      refine CW.exit (jK54 _ _ ⟨_, ?_, ⟨F, rfl, H⟩⟩)
      exact ⟨rfl, trivial⟩
set_option maxRecDepth 20000 in
set_option maxHeartbeats 1000000 in
theorem law02_DrainWidens_ok {a0 : Net} {a1 : Int} {a2 : Int} {A_a0_drains : Option Addr} {c_a0_drains : Nat} {w : World} {res : Bool} (h_a0_drains : Sl w A_a0_drains c_a0_drains 3 (a0.drains.map encDrain)) (F : law02_DrainWidens a0 a1 a2 = some res) : Calls Try.prog 10 #[.agg #[.int .i64 a0.nodes, .int .i64 a0.from_, .int .i64 a0.to_, .slice A_a0_drains a0.drains.length c_a0_drains], .int .i64 a1, .int .i64 a2] w (Rt w (.bool res)) := by
  refine calls_of_cw (args := [.agg #[.int .i64 a0.nodes, .int .i64 a0.from_, .int .i64 a0.to_, .slice A_a0_drains a0.drains.length c_a0_drains], .int .i64 a1, .int .i64 a2]) Try.func10 rfl rfl rfl rfl ?_
  have H := Hp.start w
  have R0 := H.ext
  unfold law02_DrainWidens at F
  refine CW.seq fun K1 hK1 => ?_
  refine CW.region ?_
  refine LW.go rfl rfl (OW.box rfl fun b1 w1 N1 => ?_)
  replace H := H.new N1 N1.blk
  replace R0 := H.ext
  refine LW.pure rfl rfl (RV.assign rfl) ?_
  refine LW.nil (hK1 _ _ ?_)
  refine CW.seq fun K2 hK2 => ?_
  refine CW.seq fun K3 hK3 => ?_
  obtain ⟨r9, hr9, F⟩ := bnd_some F
  refine CW.region ?_
  refine LW.pure rfl rfl (RV.loadA [.int .i64 a0.nodes, .int .i64 a0.from_, .int .i64 a0.to_, .slice A_a0_drains a0.drains.length c_a0_drains] Tk24 rfl (H.blk 0 rfl).cells rfl rfl) ?_
  refine LW.go rfl rfl (OW.call Tc16 rfl (law02_Long_ok (a0 := a0) (h_a0_drains.ext R0) hr9) ?_)
  rintro _ w2 ⟨rfl, E1⟩
  refine ⟨_, rfl, ?_⟩
  replace H := H.grow E1
  replace R0 := H.ext
  refine LW.nil (hK3 _ _ ?_)
  by_cases hp1 : r9 = true
  ·
    replace F := ite_y hp1 F
    have hq1 : r9 = true := hp1
    refine CW.condT rfl hq1 ?_
    refine CW.seq fun K4 hK4 => ?_
    obtain ⟨r10, hr10, F⟩ := bnd_some F
    refine CW.region ?_
    refine LW.go rfl rfl (OW.call Tc17 rfl (law02_known_ok hr10) ?_)
    rintro _ w3 ⟨rfl, E2⟩
    refine ⟨_, rfl, ?_⟩
    replace H := H.grow E2
    replace R0 := H.ext
    refine LW.pure rfl rfl (RV.assign rfl) ?_
    refine LW.nil (hK4 _ _ ?_)
    refine CW.ret ?_
    obtain rfl := Option.some.inj F
    refine ⟨_, (ResOK.one rfl), ?_⟩
    refine ⟨(by first | rfl | simp), R0⟩
  ·
    replace F := ite_n hp1 F
    have hq1 : r9 = false := raw_f hp1
    refine CW.condF rfl hq1 ?_
    refine CW.skip (hK2 _ _ ?_)
    refine CW.seq fun K5 hK5 => ?_
    obtain ⟨r1, hr1, F⟩ := bnd_some F
    refine CW.region ?_
    refine LW.pure rfl rfl (RV.loadA [.int .i64 a0.nodes, .int .i64 a0.from_, .int .i64 a0.to_, .slice A_a0_drains a0.drains.length c_a0_drains] Tk24 rfl (H.blk 0 rfl).cells rfl rfl) ?_
    refine LW.go rfl rfl (OW.call Tc40 rfl (ref02_Copy_ok (a0 := a0) (h_a0_drains.ext R0) hr1) ?_)
    rintro _ w4 ⟨A25_0_drains, c25_0_drains, rfl, E3⟩
    refine ⟨_, rfl, ?_⟩
    replace H : Hp w w4 [.own A25_0_drains c25_0_drains 52 3 (List.map encDrain r1.drains), .blk b1 24 [.int .i64 a0.nodes, .int .i64 a0.from_, .int .i64 a0.to_, .slice A_a0_drains a0.drains.length c_a0_drains]] := H.append E3
    replace R0 := H.ext
    refine LW.go rfl rfl (OW.alloc Tz24 fun b2 w5 N2 => ?_)
    replace H := H.new N2 N2.blk
    replace R0 := H.ext
    refine LW.go rfl rfl (OW.store Tk24 rfl rfl (H.blk 0 rfl) (off := 0) (vs := [.int .i64 r1.nodes, .int .i64 r1.from_, .int .i64 r1.to_, .slice A25_0_drains r1.drains.length c25_0_drains]) rfl rfl rfl rfl rfl fun w6 S1 => ?_)
    replace H : Hp w w6 [.blk b2 24 [.int .i64 r1.nodes, .int .i64 r1.from_, .int .i64 r1.to_, .slice A25_0_drains r1.drains.length c25_0_drains], .own A25_0_drains c25_0_drains 52 3 (List.map encDrain r1.drains), .blk b1 24 [.int .i64 a0.nodes, .int .i64 a0.from_, .int .i64 a0.to_, .slice A_a0_drains a0.drains.length c_a0_drains]] := H.stored 0 rfl S1
    replace R0 := H.ext
    refine LW.nil (hK5 _ _ ?_)
    refine CW.seq fun K6 hK6 => ?_
    obtain ⟨r4, hr4, F⟩ := bnd_some F
    refine CW.region ?_
    refine LW.pure rfl rfl (RV.loadA [.int .i64 r1.nodes, .int .i64 r1.from_, .int .i64 r1.to_, .slice A25_0_drains r1.drains.length c25_0_drains] Tk24 rfl (H.blk 0 rfl).cells rfl rfl) ?_
    refine LW.pure rfl rfl (RV.move rfl) ?_
    refine LW.pure rfl rfl (RV.move rfl) ?_
    refine LW.go rfl rfl (OW.call Tc41 rfl (drain_Widen_ok (a0 := r1) (a1 := a1) (a2 := a2) (H.own 1 rfl).sl hr4) ?_)
    rintro _ w7 ⟨A27_0_drains, c27_0_drains, rfl, E4⟩
    refine ⟨_, rfl, ?_⟩
    replace H : Hp w w7 [.own A27_0_drains c27_0_drains 52 3 (List.map encDrain r4.1.drains), .blk b2 24 [.int .i64 r1.nodes, .int .i64 r1.from_, .int .i64 r1.to_, .slice A25_0_drains r1.drains.length c25_0_drains], .own A25_0_drains c25_0_drains 52 3 (List.map encDrain r1.drains), .blk b1 24 [.int .i64 a0.nodes, .int .i64 a0.from_, .int .i64 a0.to_, .slice A_a0_drains a0.drains.length c_a0_drains]] := H.append E4
    replace R0 := H.ext
    refine LW.pure rfl rfl (RV.move rfl) ?_
    refine LW.pure rfl rfl (RV.extract rfl rfl) ?_
    refine LW.pure rfl rfl (RV.extract rfl rfl) ?_
    refine LW.go rfl rfl (OW.alloc Tz24 fun b3 w8 N3 => ?_)
    replace H := H.new N3 N3.blk
    replace R0 := H.ext
    refine LW.go rfl rfl (OW.store Tk24 rfl rfl (H.blk 0 rfl) (off := 0) (vs := [.int .i64 r4.1.nodes, .int .i64 r4.1.from_, .int .i64 r4.1.to_, .slice A27_0_drains r4.1.drains.length c27_0_drains]) rfl rfl rfl rfl rfl fun w9 S2 => ?_)
    replace H : Hp w w9 [.blk b3 24 [.int .i64 r4.1.nodes, .int .i64 r4.1.from_, .int .i64 r4.1.to_, .slice A27_0_drains r4.1.drains.length c27_0_drains], .own A27_0_drains c27_0_drains 52 3 (List.map encDrain r4.1.drains), .blk b2 24 [.int .i64 r1.nodes, .int .i64 r1.from_, .int .i64 r1.to_, .slice A25_0_drains r1.drains.length c25_0_drains], .own A25_0_drains c25_0_drains 52 3 (List.map encDrain r1.drains), .blk b1 24 [.int .i64 a0.nodes, .int .i64 a0.from_, .int .i64 a0.to_, .slice A_a0_drains a0.drains.length c_a0_drains]] := H.stored 0 rfl S2
    replace R0 := H.ext
    refine LW.pure rfl rfl (RV.assign rfl) ?_
    refine LW.nil (hK6 _ _ ?_)
    refine CW.seq fun K7 hK7 => ?_
    obtain ⟨r11, hr11, F⟩ := bnd_some F
    refine CW.region ?_
    refine LW.pure rfl rfl (RV.loadA [.int .i64 a0.nodes, .int .i64 a0.from_, .int .i64 a0.to_, .slice A_a0_drains a0.drains.length c_a0_drains] Tk24 rfl (H.blk 4 rfl).cells rfl rfl) ?_
    refine LW.pure rfl rfl (RV.move rfl) ?_
    refine LW.pure rfl rfl (RV.move rfl) ?_
    refine LW.go rfl rfl (OW.call Tc42 rfl (ref02_Widen_ok (a0 := a0) (a1 := a1) (a2 := a2) (h_a0_drains.ext R0) hr11) ?_)
    rintro _ w10 ⟨A29_0_drains, c29_0_drains, rfl, E5⟩
    refine ⟨_, rfl, ?_⟩
    replace H : Hp w w10 [.own A29_0_drains c29_0_drains 52 3 (List.map encDrain r11.1.drains), .blk b3 24 [.int .i64 r4.1.nodes, .int .i64 r4.1.from_, .int .i64 r4.1.to_, .slice A27_0_drains r4.1.drains.length c27_0_drains], .own A27_0_drains c27_0_drains 52 3 (List.map encDrain r4.1.drains), .blk b2 24 [.int .i64 r1.nodes, .int .i64 r1.from_, .int .i64 r1.to_, .slice A25_0_drains r1.drains.length c25_0_drains], .own A25_0_drains c25_0_drains 52 3 (List.map encDrain r1.drains), .blk b1 24 [.int .i64 a0.nodes, .int .i64 a0.from_, .int .i64 a0.to_, .slice A_a0_drains a0.drains.length c_a0_drains]] := H.append E5
    replace R0 := H.ext
    refine LW.pure rfl rfl (RV.move rfl) ?_
    refine LW.pure rfl rfl (RV.extract rfl rfl) ?_
    refine LW.pure rfl rfl (RV.extract rfl rfl) ?_
    refine LW.go rfl rfl (OW.alloc Tz24 fun b4 w11 N4 => ?_)
    replace H := H.new N4 N4.blk
    replace R0 := H.ext
    refine LW.go rfl rfl (OW.store Tk24 rfl rfl (H.blk 0 rfl) (off := 0) (vs := [.int .i64 r11.1.nodes, .int .i64 r11.1.from_, .int .i64 r11.1.to_, .slice A29_0_drains r11.1.drains.length c29_0_drains]) rfl rfl rfl rfl rfl fun w12 S3 => ?_)
    replace H : Hp w w12 [.blk b4 24 [.int .i64 r11.1.nodes, .int .i64 r11.1.from_, .int .i64 r11.1.to_, .slice A29_0_drains r11.1.drains.length c29_0_drains], .own A29_0_drains c29_0_drains 52 3 (List.map encDrain r11.1.drains), .blk b3 24 [.int .i64 r4.1.nodes, .int .i64 r4.1.from_, .int .i64 r4.1.to_, .slice A27_0_drains r4.1.drains.length c27_0_drains], .own A27_0_drains c27_0_drains 52 3 (List.map encDrain r4.1.drains), .blk b2 24 [.int .i64 r1.nodes, .int .i64 r1.from_, .int .i64 r1.to_, .slice A25_0_drains r1.drains.length c25_0_drains], .own A25_0_drains c25_0_drains 52 3 (List.map encDrain r1.drains), .blk b1 24 [.int .i64 a0.nodes, .int .i64 a0.from_, .int .i64 a0.to_, .slice A_a0_drains a0.drains.length c_a0_drains]] := H.stored 0 rfl S3
    replace R0 := H.ext
    refine LW.pure rfl rfl (RV.assign rfl) ?_
    refine LW.nil (hK7 _ _ ?_)
    refine CW.seq fun K8 hK8 => ?_
    refine CW.seqJ (fun ρ wl1 => (∃ (t46_1 : Bool), law02_DrainWidens_k5 a0 a1 a2 r1 r4 t46_1 = some res ∧ ρ = [(1, .int .i64 a1), (2, .int .i64 a2), (3, .pointer (some (⟨b1, 0, none⟩))), (6, .bool false), (7, .pointer (some (⟨b2, 0, none⟩))), (8, .pointer (some (⟨b3, 0, none⟩))), (9, .int .i64 r4.2), (46, .bool t46_1)] ∧ Hp w wl1 [.own A25_0_drains c25_0_drains 52 3 (List.map encDrain r1.drains), .own A27_0_drains c27_0_drains 52 3 (List.map encDrain r4.1.drains), .blk b1 24 [.int .i64 a0.nodes, .int .i64 a0.from_, .int .i64 a0.to_, .slice A_a0_drains a0.drains.length c_a0_drains], .blk b2 24 [.int .i64 r1.nodes, .int .i64 r1.from_, .int .i64 r1.to_, .slice A25_0_drains r1.drains.length c25_0_drains], .blk b3 24 [.int .i64 r4.1.nodes, .int .i64 r4.1.from_, .int .i64 r4.1.to_, .slice A27_0_drains r4.1.drains.length c27_0_drains]])) ?_ ?_
    ·
      rintro _ wl1 ⟨t46_1, F, rfl, H⟩
      have R0 := H.ext
      unfold law02_DrainWidens_k5 at F
      by_cases hp2 : t46_1 = true
      ·
        replace F := ite_y hp2 F
        have hq2 : t46_1 = true := hp2
        refine CW.condT rfl hq2 ?_
        refine CW.seq fun K9 hK9 => ?_
        refine CW.region ?_
        refine LW.pure rfl rfl (RV.assign rfl) ?_
        refine LW.nil (hK9 _ _ ?_)
        refine CW.ret ?_
        obtain rfl := Option.some.inj F
        refine ⟨_, (ResOK.one rfl), ?_⟩
        refine ⟨(by first | rfl | simp), R0⟩
      ·
        replace F := ite_n hp2 F
        have hq2 : t46_1 = false := raw_f hp2
        refine CW.condF rfl hq2 ?_
        refine CW.skip (hK8 _ _ ?_)
        refine CW.seqJ (fun ρ wl2 => (law02_DrainWidens_k2 a0 r1 r4 = some res ∧ ρ = [(3, .pointer (some (⟨b1, 0, none⟩))), (6, .bool false), (7, .pointer (some (⟨b2, 0, none⟩))), (8, .pointer (some (⟨b3, 0, none⟩)))] ∧ Hp w wl2 [.own A25_0_drains c25_0_drains 52 3 (List.map encDrain r1.drains), .own A27_0_drains c27_0_drains 52 3 (List.map encDrain r4.1.drains), .blk b1 24 [.int .i64 a0.nodes, .int .i64 a0.from_, .int .i64 a0.to_, .slice A_a0_drains a0.drains.length c_a0_drains], .blk b2 24 [.int .i64 r1.nodes, .int .i64 r1.from_, .int .i64 r1.to_, .slice A25_0_drains r1.drains.length c25_0_drains], .blk b3 24 [.int .i64 r4.1.nodes, .int .i64 r4.1.from_, .int .i64 r4.1.to_, .slice A27_0_drains r4.1.drains.length c27_0_drains]])) ?_ ?_
        ·
          rintro _ wl2 ⟨F, rfl, H⟩
          have R0 := H.ext
          unfold law02_DrainWidens_k2 at F
          refine CW.seqJ (fun ρ wl3 => (law02_DrainWidens_k1 a0 r1 = some res ∧ ρ = [(3, .pointer (some (⟨b1, 0, none⟩))), (6, .bool false), (7, .pointer (some (⟨b2, 0, none⟩)))] ∧ Hp w wl3 [.own A25_0_drains c25_0_drains 52 3 (List.map encDrain r1.drains), .blk b1 24 [.int .i64 a0.nodes, .int .i64 a0.from_, .int .i64 a0.to_, .slice A_a0_drains a0.drains.length c_a0_drains], .blk b2 24 [.int .i64 r1.nodes, .int .i64 r1.from_, .int .i64 r1.to_, .slice A25_0_drains r1.drains.length c25_0_drains]])) ?_ ?_
          ·
            rintro _ wl3 ⟨F, rfl, H⟩
            have R0 := H.ext
            unfold law02_DrainWidens_k1 at F
            refine CW.seq fun K10 hK10 => ?_
            obtain ⟨r2, hr2, F⟩ := bnd_some F
            by_cases hp3 : r2 = true
            ·
              replace F := ite_y hp3 F
              have hq3 : r2 = true := hp3
              obtain ⟨r3, hr3, F⟩ := bnd_some F
              refine CW.region ?_
              refine LW.pure rfl rfl (RV.loadA [.int .i64 r1.nodes, .int .i64 r1.from_, .int .i64 r1.to_, .slice A25_0_drains r1.drains.length c25_0_drains] Tk24 rfl (H.blk 2 rfl).cells rfl rfl) ?_
              refine LW.pure rfl rfl (RV.loadA [.int .i64 a0.nodes, .int .i64 a0.from_, .int .i64 a0.to_, .slice A_a0_drains a0.drains.length c_a0_drains] Tk24 rfl (H.blk 1 rfl).cells rfl rfl) ?_
              refine LW.go rfl rfl (OW.call Tc24 rfl (ref02_Same_ok (a0 := r1) (a1 := a0) (H.own 0 rfl).sl (h_a0_drains.ext R0) hr2) ?_)
              rintro _ w13 ⟨rfl, E6⟩
              refine ⟨_, rfl, ?_⟩
              replace H := H.grow E6
              replace R0 := H.ext
              refine LW.pure rfl rfl (RV.move rfl) ?_
              refine LW.yesB rfl rfl rfl rfl hq3 (OW.call Tc17 rfl (law02_known_ok hr3) ?_)
              rintro _ w14 ⟨rfl, E7⟩
              refine ⟨_, rfl, ?_⟩
              replace H := H.grow E7
              replace R0 := H.ext
              refine LW.pure rfl rfl (RV.pickTB rfl hq3 rfl) ?_
              refine LW.pure rfl rfl (RV.assign rfl) ?_
              refine LW.nil (hK10 _ _ ?_)
              refine CW.ret ?_
              obtain rfl := Option.some.inj F
              refine ⟨_, (ResOK.one rfl), ?_⟩
              refine ⟨(by first | rfl | simp), R0⟩
            ·
              replace F := ite_n hp3 F
              have hq3 : r2 = false := raw_f hp3
              refine CW.region ?_
              refine LW.pure rfl rfl (RV.loadA [.int .i64 r1.nodes, .int .i64 r1.from_, .int .i64 r1.to_, .slice A25_0_drains r1.drains.length c25_0_drains] Tk24 rfl (H.blk 2 rfl).cells rfl rfl) ?_
              refine LW.pure rfl rfl (RV.loadA [.int .i64 a0.nodes, .int .i64 a0.from_, .int .i64 a0.to_, .slice A_a0_drains a0.drains.length c_a0_drains] Tk24 rfl (H.blk 1 rfl).cells rfl rfl) ?_
              refine LW.go rfl rfl (OW.call Tc24 rfl (ref02_Same_ok (a0 := r1) (a1 := a0) (H.own 0 rfl).sl (h_a0_drains.ext R0) hr2) ?_)
              rintro _ w15 ⟨rfl, E8⟩
              refine ⟨_, rfl, ?_⟩
              replace H := H.grow E8
              replace R0 := H.ext
              refine LW.pure rfl rfl (RV.move rfl) ?_
              refine LW.noB rfl rfl rfl rfl (ne_beq (v := false) hq3 rfl) ?_
              refine LW.pure rfl rfl (RV.pickFB rfl hq3 rfl) ?_
              refine LW.pure rfl rfl (RV.assign rfl) ?_
              refine LW.nil (hK10 _ _ ?_)
              refine CW.ret ?_
              obtain rfl := Option.some.inj F
              refine ⟨_, (ResOK.one rfl), ?_⟩
              refine ⟨(by first | rfl | simp), R0⟩
          ·
            intro K11 hK11 jK81
            refine CW.seq fun K12 hK12 => ?_
            refine CW.region ?_
            refine LW.pure rfl rfl (RV.assign rfl) ?_
            refine LW.nil (hK12 _ _ ?_)
            refine CW.block ?_
            refine CW.loop (fun meas ρ wl4 => ∃ (t18_1 : Int) (l1 : List Drain), law02_DrainWidens_L1 a0 r1 meas t18_1 l1 = some res ∧ ρ = [(3, .pointer (some (⟨b1, 0, none⟩))), (6, .bool false), (7, .pointer (some (⟨b2, 0, none⟩))), (8, .pointer (some (⟨b3, 0, none⟩))), (18, .int .i64 t18_1)] ∧ Hp w wl4 [.own A25_0_drains c25_0_drains 52 3 (List.map encDrain r1.drains), .own A27_0_drains c27_0_drains 52 3 (List.map encDrain l1), .blk b1 24 [.int .i64 a0.nodes, .int .i64 a0.from_, .int .i64 a0.to_, .slice A_a0_drains a0.drains.length c_a0_drains], .blk b2 24 [.int .i64 r1.nodes, .int .i64 r1.from_, .int .i64 r1.to_, .slice A25_0_drains r1.drains.length c25_0_drains], .blk b3 24 [.int .i64 r4.1.nodes, .int .i64 r4.1.from_, .int .i64 r4.1.to_, .slice A27_0_drains l1.length c27_0_drains]]) FU ⟨_, ?_, ((0 : Int)), r4.1.drains, F, rfl, H⟩ ?_
            · exact ⟨rfl, rfl, rfl, rfl, rfl, trivial⟩
            rintro mk1 _ wl4 ⟨t18_1, l1, F, rfl, H⟩
            have R0 := H.ext
            replace F := law02_DrainWidens_L1_s F
            obtain ⟨mk1, rfl, F⟩ := F
            generalize hrec1 : law02_DrainWidens_L1 a0 r1 mk1 = rec1 at F
            unfold law02_DrainWidens_B1 at F
            refine CW.seq fun K13 hK13 => ?_
            refine CW.seq fun K14 hK14 => ?_
            refine CW.region ?_
            refine LW.pure rfl rfl (RV.move rfl) ?_
            refine LW.pure rfl rfl (RV.fieldAddr Tf24_3 rfl) ?_
            refine LW.pure rfl rfl (RV.load1 Tk22 rfl ((H.blk 4 rfl).cells.off 3) rfl) ?_
            refine LW.pure rfl rfl (RV.len Ts22 rfl) ?_
            refine LW.pure rfl rfl (RV.lss rfl rfl) ?_
            refine LW.nil (hK14 _ _ ?_)
            by_cases hp4 : t18_1 < ((l1.length : Int))
            ·
              replace F := ite_y hp4 F
              have hq4 := dec_t hp4
              refine CW.condT rfl hq4 ?_
              refine CW.skip (hK13 _ _ ?_)
              refine CW.seq fun K15 hK15 => ?_
              refine CW.block ?_
              obtain ⟨x1, hbx1, hx1, F⟩ := ix_some F
              refine CW.region ?_
              refine LW.pure rfl rfl (RV.fieldAddr Tf24_3 rfl) ?_
              refine LW.pure rfl rfl (RV.load1 Tk22 rfl ((H.blk 4 rfl).cells.off 3) rfl) ?_
              refine LW.pure rfl rfl (RV.move rfl) ?_
              refine LW.pure rfl rfl (RV.indexAddr Ts22 rfl rfl hbx1 ((H.own 1 rfl).sl.addr_ hx1)) ?_
              refine LW.pure rfl rfl (RV.fieldAddr Tf52_2 rfl) ?_
              refine LW.go rfl rfl (OW.storeO (enc := encDrain) (vs := [.int .i64 (-1)]) 2 ((⟨x1.from_, x1.to_, -1⟩ : Drain)) Tk3 rfl rfl (H.own 1 rfl) (fun _ => rfl) rfl hx1 rfl rfl (by decide) rfl rfl fun w16 M1 O1 => ?_)
              replace H : Hp w w16 [.own A25_0_drains c25_0_drains 52 3 (List.map encDrain r1.drains), .own A27_0_drains c27_0_drains 52 3 (List.map encDrain ((l1.set (Int.toNat t18_1) ((⟨x1.from_, x1.to_, -1⟩ : Drain))))), .blk b1 24 [.int .i64 a0.nodes, .int .i64 a0.from_, .int .i64 a0.to_, .slice A_a0_drains a0.drains.length c_a0_drains], .blk b2 24 [.int .i64 r1.nodes, .int .i64 r1.from_, .int .i64 r1.to_, .slice A25_0_drains r1.drains.length c25_0_drains], .blk b3 24 [.int .i64 r4.1.nodes, .int .i64 r4.1.from_, .int .i64 r4.1.to_, .slice A27_0_drains l1.length c27_0_drains]] := H.mod 1 rfl M1 O1 (.inl rfl)
              replace R0 := H.ext
              refine LW.nil (hK15 _ _ ?_)
              obtain ⟨hg1, F⟩ := gd_some F
              refine CW.region ?_
              refine LW.pure rfl rfl (RV.move rfl) ?_
              refine LW.pure rfl rfl (RV.add rfl rfl hg1) ?_
              refine LW.pure rfl rfl (RV.assign rfl) ?_
              refine LW.nil ?_
              replace H := H.cast (L' := [.own A25_0_drains c25_0_drains 52 3 (List.map encDrain r1.drains), .own A27_0_drains c27_0_drains 52 3 (List.map encDrain ((l1.set (Int.toNat t18_1) ((⟨x1.from_, x1.to_, -1⟩ : Drain))))), .blk b1 24 [.int .i64 a0.nodes, .int .i64 a0.from_, .int .i64 a0.to_, .slice A_a0_drains a0.drains.length c_a0_drains], .blk b2 24 [.int .i64 r1.nodes, .int .i64 r1.from_, .int .i64 r1.to_, .slice A25_0_drains r1.drains.length c25_0_drains], .blk b3 24 [.int .i64 r4.1.nodes, .int .i64 r4.1.from_, .int .i64 r4.1.to_, .slice A27_0_drains (((l1.set (Int.toNat t18_1) ((⟨x1.from_, x1.to_, -1⟩ : Drain)))).length) c27_0_drains]]) (by first | rfl | (simp only [List.length_set]; done) | simp)
              subst hrec1
              refine ⟨mk1, Nat.lt_succ_self _, _, ?_, (t18_1 + 1), ((l1.set (Int.toNat t18_1) ((⟨x1.from_, x1.to_, -1⟩ : Drain)))), F, rfl, H⟩
              exact ⟨rfl, rfl, rfl, rfl, rfl, trivial⟩
            ·
              replace F := ite_n hp4 F
              have hq4 := dec_f hp4
              refine CW.condF rfl hq4 ?_
              replace H := H.pick (L' := [.own A25_0_drains c25_0_drains 52 3 (List.map encDrain r1.drains), .blk b1 24 [.int .i64 a0.nodes, .int .i64 a0.from_, .int .i64 a0.to_, .slice A_a0_drains a0.drains.length c_a0_drains], .blk b2 24 [.int .i64 r1.nodes, .int .i64 r1.from_, .int .i64 r1.to_, .slice A25_0_drains r1.drains.length c25_0_drains]]) [0, 2, 3] (by decide) rfl
              replace R0 := H.ext
              refine CW.exit (jK81 _ _ ⟨_, ?_, ⟨F, rfl, H⟩⟩)
              exact ⟨rfl, rfl, rfl, trivial⟩
        ·
          intro K16 hK16 jK92
          refine CW.seq fun K17 hK17 => ?_
          refine CW.region ?_
          refine LW.pure rfl rfl (RV.move rfl) ?_
          refine LW.pure rfl rfl (RV.eqi rfl rfl) ?_
          refine LW.nil (hK17 _ _ ?_)
          by_cases hp5 : r4.2 = 0
          ·
            replace F := ite_y hp5 F
            have hq5 := dec_t hp5
            refine CW.condT rfl hq5 ?_
            refine CW.seq fun K18 hK18 => ?_
            obtain ⟨r5, hr5, F⟩ := bnd_some F
            refine CW.region ?_
            refine LW.pure rfl rfl (RV.loadA [.int .i64 a0.nodes, .int .i64 a0.from_, .int .i64 a0.to_, .slice A_a0_drains a0.drains.length c_a0_drains] Tk24 rfl (H.blk 2 rfl).cells rfl rfl) ?_
            refine LW.go rfl rfl (OW.call Tc18 rfl (drain_Most_ok (a0 := a0) (h_a0_drains.ext R0) hr5) ?_)
            rintro _ w17 ⟨rfl, E9⟩
            refine ⟨_, rfl, ?_⟩
            replace H := H.grow E9
            replace R0 := H.ext
            refine LW.pure rfl rfl (RV.move rfl) ?_
            refine LW.pure rfl rfl (RV.extract rfl rfl) ?_
            refine LW.pure rfl rfl (RV.extract rfl rfl) ?_
            refine LW.pure rfl rfl (RV.assign rfl) ?_
            refine LW.pure rfl rfl (RV.assign rfl) ?_
            refine LW.nil (hK18 _ _ ?_)
            refine CW.seq fun K19 hK19 => ?_
            obtain ⟨r6, hr6, F⟩ := bnd_some F
            refine CW.region ?_
            refine LW.pure rfl rfl (RV.loadA [.int .i64 r4.1.nodes, .int .i64 r4.1.from_, .int .i64 r4.1.to_, .slice A27_0_drains r4.1.drains.length c27_0_drains] Tk24 rfl (H.blk 4 rfl).cells rfl rfl) ?_
            refine LW.go rfl rfl (OW.call Tc18 rfl (drain_Most_ok (a0 := r4.1) (H.own 1 rfl).sl hr6) ?_)
            rintro _ w18 ⟨rfl, E10⟩
            refine ⟨_, rfl, ?_⟩
            replace H := H.grow E10
            replace R0 := H.ext
            refine LW.pure rfl rfl (RV.move rfl) ?_
            refine LW.pure rfl rfl (RV.extract rfl rfl) ?_
            refine LW.pure rfl rfl (RV.extract rfl rfl) ?_
            refine LW.pure rfl rfl (RV.assign rfl) ?_
            refine LW.pure rfl rfl (RV.assign rfl) ?_
            refine LW.nil (hK19 _ _ ?_)
            refine CW.seq fun K20 hK20 => ?_
            obtain ⟨r7, hr7, F⟩ := bnd_some F
            refine CW.region ?_
            refine LW.pure rfl rfl (RV.loadA [.int .i64 a0.nodes, .int .i64 a0.from_, .int .i64 a0.to_, .slice A_a0_drains a0.drains.length c_a0_drains] Tk24 rfl (H.blk 2 rfl).cells rfl rfl) ?_
            refine LW.go rfl rfl (OW.call Tc43 rfl (drain_Wanted_ok (a0 := a0) (h_a0_drains.ext R0) hr7) ?_)
            rintro _ w19 ⟨A46_0, c46_0, rfl, E11⟩
            refine ⟨_, rfl, ?_⟩
            replace H : Hp w w19 [.own A46_0 c46_0 3 1 (List.map encN r7.1), .own A25_0_drains c25_0_drains 52 3 (List.map encDrain r1.drains), .own A27_0_drains c27_0_drains 52 3 (List.map encDrain r4.1.drains), .blk b1 24 [.int .i64 a0.nodes, .int .i64 a0.from_, .int .i64 a0.to_, .slice A_a0_drains a0.drains.length c_a0_drains], .blk b2 24 [.int .i64 r1.nodes, .int .i64 r1.from_, .int .i64 r1.to_, .slice A25_0_drains r1.drains.length c25_0_drains], .blk b3 24 [.int .i64 r4.1.nodes, .int .i64 r4.1.from_, .int .i64 r4.1.to_, .slice A27_0_drains r4.1.drains.length c27_0_drains]] := H.append E11
            replace R0 := H.ext
            refine LW.pure rfl rfl (RV.move rfl) ?_
            refine LW.pure rfl rfl (RV.extract rfl rfl) ?_
            refine LW.pure rfl rfl (RV.extract rfl rfl) ?_
            refine LW.pure rfl rfl (RV.assign rfl) ?_
            refine LW.pure rfl rfl (RV.assign rfl) ?_
            refine LW.nil (hK20 _ _ ?_)
            refine CW.seq fun K21 hK21 => ?_
            refine CW.seqJ (fun ρ wl5 => (∃ (t89_1 : Bool), law02_DrainWidens_k4 a0 a1 a2 r1 r4 r5 r6 r7 t89_1 = some res ∧ ρ = [(1, .int .i64 a1), (2, .int .i64 a2), (3, .pointer (some (⟨b1, 0, none⟩))), (6, .bool false), (7, .pointer (some (⟨b2, 0, none⟩))), (8, .pointer (some (⟨b3, 0, none⟩))), (12, .int .i64 r5.1), (14, .int .i64 r6.1), (16, .slice A46_0 r7.1.length c46_0), (89, .bool t89_1)] ∧ Hp w wl5 [.own A46_0 c46_0 3 1 (List.map encN r7.1), .own A25_0_drains c25_0_drains 52 3 (List.map encDrain r1.drains), .own A27_0_drains c27_0_drains 52 3 (List.map encDrain r4.1.drains), .blk b1 24 [.int .i64 a0.nodes, .int .i64 a0.from_, .int .i64 a0.to_, .slice A_a0_drains a0.drains.length c_a0_drains], .blk b2 24 [.int .i64 r1.nodes, .int .i64 r1.from_, .int .i64 r1.to_, .slice A25_0_drains r1.drains.length c25_0_drains], .blk b3 24 [.int .i64 r4.1.nodes, .int .i64 r4.1.from_, .int .i64 r4.1.to_, .slice A27_0_drains r4.1.drains.length c27_0_drains]])) ?_ ?_
            ·
              rintro _ wl5 ⟨t89_1, F, rfl, H⟩
              have R0 := H.ext
              unfold law02_DrainWidens_k4 at F
              by_cases hp6 : t89_1 = true
              ·
                replace F := ite_y hp6 F
                have hq6 : t89_1 = true := hp6
                refine CW.condT rfl hq6 ?_
                refine CW.seq fun K22 hK22 => ?_
                refine CW.region ?_
                refine LW.pure rfl rfl (RV.assign rfl) ?_
                refine LW.nil (hK22 _ _ ?_)
                refine CW.ret ?_
                obtain rfl := Option.some.inj F
                refine ⟨_, (ResOK.one rfl), ?_⟩
                refine ⟨(by first | rfl | simp), R0⟩
              ·
                replace F := ite_n hp6 F
                have hq6 : t89_1 = false := raw_f hp6
                refine CW.condF rfl hq6 ?_
                refine CW.skip (hK21 _ _ ?_)
                refine CW.seqJ (fun ρ wl6 => (∃ (t100_1 : Bool), law02_DrainWidens_k3 a0 r1 r4 t100_1 = some res ∧ ρ = [(3, .pointer (some (⟨b1, 0, none⟩))), (6, .bool false), (7, .pointer (some (⟨b2, 0, none⟩))), (8, .pointer (some (⟨b3, 0, none⟩))), (100, .bool t100_1)] ∧ Hp w wl6 [.own A25_0_drains c25_0_drains 52 3 (List.map encDrain r1.drains), .own A27_0_drains c27_0_drains 52 3 (List.map encDrain r4.1.drains), .blk b1 24 [.int .i64 a0.nodes, .int .i64 a0.from_, .int .i64 a0.to_, .slice A_a0_drains a0.drains.length c_a0_drains], .blk b2 24 [.int .i64 r1.nodes, .int .i64 r1.from_, .int .i64 r1.to_, .slice A25_0_drains r1.drains.length c25_0_drains], .blk b3 24 [.int .i64 r4.1.nodes, .int .i64 r4.1.from_, .int .i64 r4.1.to_, .slice A27_0_drains r4.1.drains.length c27_0_drains]])) ?_ ?_
                ·
                  rintro _ wl6 ⟨t100_1, F, rfl, H⟩
                  have R0 := H.ext
                  unfold law02_DrainWidens_k3 at F
                  by_cases hp7 : t100_1 = true
                  ·
                    replace F := ite_y hp7 F
                    have hq7 : t100_1 = true := hp7
                    refine CW.condT rfl hq7 ?_
                    refine CW.seq fun K23 hK23 => ?_
                    refine CW.region ?_
                    refine LW.pure rfl rfl (RV.assign rfl) ?_
                    refine LW.nil (hK23 _ _ ?_)
                    refine CW.ret ?_
                    obtain rfl := Option.some.inj F
                    refine ⟨_, (ResOK.one rfl), ?_⟩
                    refine ⟨(by first | rfl | simp), R0⟩
                  ·
                    replace F := ite_n hp7 F
                    have hq7 : t100_1 = false := raw_f hp7
                    refine CW.condF rfl hq7 ?_
                    refine CW.skip (jK92 _ _ ⟨_, ?_, ⟨F, rfl, H⟩⟩)
                    exact ⟨rfl, rfl, rfl, rfl, trivial⟩
                ·
                  intro K24 hK24 jK100
                  by_cases hp8 : a2 = 1
                  ·
                    replace F := ite_y hp8 F
                    have hq8 := dec_t hp8
                    obtain ⟨r8, hr8, F⟩ := bnd_some F
                    refine CW.region ?_
                    refine LW.pure rfl rfl (RV.move rfl) ?_
                    refine LW.pure rfl rfl (RV.eqi rfl rfl) ?_
                    refine LW.pure rfl rfl (RV.move rfl) ?_
                    refine LW.pureYB rfl rfl rfl rfl hq8 (RV.move rfl) ?_
                    refine LW.pureYB rfl rfl rfl rfl hq8 (RV.move rfl) ?_
                    refine LW.pureYB rfl rfl rfl rfl hq8 (RV.gtr rfl rfl) ?_
                    refine LW.pureYB rfl rfl rfl rfl hq8 (RV.move rfl) ?_
                    refine LW.pureYB rfl rfl rfl rfl hq8 (RV.move rfl) ?_
                    refine LW.yesB rfl rfl rfl rfl hq8 (OW.call Tc44 rfl (law02_has_ok (a0 := r7.1) (a1 := a1) (H.own 0 rfl).sl hr8) ?_)
                    rintro _ w20 ⟨rfl, E12⟩
                    refine ⟨_, rfl, ?_⟩
                    replace H := H.grow E12
                    replace R0 := H.ext
                    refine LW.pureYB rfl rfl rfl rfl hq8 (RV.neb Tb4 rfl rfl) ?_
                    refine LW.pure rfl rfl (RV.pickTB rfl hq8 rfl) ?_
                    replace H := H.pick (L' := [.own A25_0_drains c25_0_drains 52 3 (List.map encDrain r1.drains), .own A27_0_drains c27_0_drains 52 3 (List.map encDrain r4.1.drains), .blk b1 24 [.int .i64 a0.nodes, .int .i64 a0.from_, .int .i64 a0.to_, .slice A_a0_drains a0.drains.length c_a0_drains], .blk b2 24 [.int .i64 r1.nodes, .int .i64 r1.from_, .int .i64 r1.to_, .slice A25_0_drains r1.drains.length c25_0_drains], .blk b3 24 [.int .i64 r4.1.nodes, .int .i64 r4.1.from_, .int .i64 r4.1.to_, .slice A27_0_drains r4.1.drains.length c27_0_drains]]) [1, 2, 3, 4, 5] (by decide) rfl
                    replace R0 := H.ext
                    refine LW.nil (jK100 _ _ ⟨_, ?_, ⟨(!((decide (r5.1 < r6.1)) == r8)), F, rfl, H⟩⟩)
                    exact ⟨rfl, rfl, rfl, rfl, rfl, trivial⟩
                  ·
                    replace F := ite_n hp8 F
                    have hq8 := dec_f hp8
                    refine CW.region ?_
                    refine LW.pure rfl rfl (RV.move rfl) ?_
                    refine LW.pure rfl rfl (RV.eqi rfl rfl) ?_
                    refine LW.pure rfl rfl (RV.move rfl) ?_
                    refine LW.noB rfl rfl rfl rfl (ne_beq (v := false) hq8 rfl) ?_
                    refine LW.noB rfl rfl rfl rfl (ne_beq (v := false) hq8 rfl) ?_
                    refine LW.noB rfl rfl rfl rfl (ne_beq (v := false) hq8 rfl) ?_
                    refine LW.noB rfl rfl rfl rfl (ne_beq (v := false) hq8 rfl) ?_
                    refine LW.noB rfl rfl rfl rfl (ne_beq (v := false) hq8 rfl) ?_
                    refine LW.noB rfl rfl rfl rfl (ne_beq (v := false) hq8 rfl) ?_
                    refine LW.noB rfl rfl rfl rfl (ne_beq (v := false) hq8 rfl) ?_
                    refine LW.pure rfl rfl (RV.pickFB rfl hq8 rfl) ?_
                    replace H := H.pick (L' := [.own A25_0_drains c25_0_drains 52 3 (List.map encDrain r1.drains), .own A27_0_drains c27_0_drains 52 3 (List.map encDrain r4.1.drains), .blk b1 24 [.int .i64 a0.nodes, .int .i64 a0.from_, .int .i64 a0.to_, .slice A_a0_drains a0.drains.length c_a0_drains], .blk b2 24 [.int .i64 r1.nodes, .int .i64 r1.from_, .int .i64 r1.to_, .slice A25_0_drains r1.drains.length c25_0_drains], .blk b3 24 [.int .i64 r4.1.nodes, .int .i64 r4.1.from_, .int .i64 r4.1.to_, .slice A27_0_drains r4.1.drains.length c27_0_drains]]) [1, 2, 3, 4, 5] (by decide) rfl
                    replace R0 := H.ext
                    refine LW.nil (jK100 _ _ ⟨_, ?_, ⟨false, F, rfl, H⟩⟩)
                    exact ⟨rfl, rfl, rfl, rfl, rfl, trivial⟩
            ·
              intro K25 hK25 jK101
              by_cases hp9 : r5.2 = 0
              ·
                replace F := ite_y hp9 F
                have hq9 := dec_t hp9
                by_cases hp10 : r6.2 = 0
                ·
                  replace F := ite_y hp10 F
                  have hq10 := dec_t hp10
                  by_cases hp11 : r7.2 = 0
                  ·
                    replace F := ite_y hp11 F
                    have hq11 := dec_t hp11
                    obtain ⟨hg2, F⟩ := gd_some F
                    by_cases hp12 : (r5.1 + (max a2 0)) < r6.1
                    ·
                      replace F := ite_y hp12 F
                      have hq12 := dec_t hp12
                      refine CW.region ?_
                      refine LW.pure rfl rfl (RV.move rfl) ?_
                      refine LW.pure rfl rfl (RV.nei rfl rfl) ?_
                      refine LW.pure rfl rfl (RV.move rfl) ?_
                      refine LW.pureYB rfl rfl rfl rfl (not_f hq9) (RV.move rfl) ?_
                      refine LW.pureYB rfl rfl rfl rfl (not_f hq9) (RV.nei rfl rfl) ?_
                      refine LW.pure rfl rfl (RV.pickFB rfl (not_f hq9) rfl) ?_
                      refine LW.pure rfl rfl (RV.move rfl) ?_
                      refine LW.pureYB rfl rfl rfl rfl (not_f hq10) (RV.move rfl) ?_
                      refine LW.pureYB rfl rfl rfl rfl (not_f hq10) (RV.nei rfl rfl) ?_
                      refine LW.pure rfl rfl (RV.pickFB rfl (not_f hq10) rfl) ?_
                      refine LW.pure rfl rfl (RV.move rfl) ?_
                      refine LW.pureYB rfl rfl rfl rfl (not_f hq11) (RV.move rfl) ?_
                      refine LW.pureYB rfl rfl rfl rfl (not_f hq11) (RV.move rfl) ?_
                      refine LW.pureYB rfl rfl rfl rfl (not_f hq11) (RV.move rfl) ?_
                      refine LW.pureYB rfl rfl rfl rfl (not_f hq11) (RV.max2 rfl rfl) ?_
                      refine LW.pureYB rfl rfl rfl rfl (not_f hq11) (RV.add rfl rfl hg2) ?_
                      refine LW.pureYB rfl rfl rfl rfl (not_f hq11) (RV.gtr rfl rfl) ?_
                      refine LW.pure rfl rfl (RV.pickFB rfl (not_f hq11) rfl) ?_
                      refine LW.pure rfl rfl (RV.move rfl) ?_
                      refine LW.noB rfl rfl rfl rfl (ne_beq (v := true) hq12 rfl) ?_
                      refine LW.noB rfl rfl rfl rfl (ne_beq (v := true) hq12 rfl) ?_
                      refine LW.noB rfl rfl rfl rfl (ne_beq (v := true) hq12 rfl) ?_
                      refine LW.noB rfl rfl rfl rfl (ne_beq (v := true) hq12 rfl) ?_
                      refine LW.noB rfl rfl rfl rfl (ne_beq (v := true) hq12 rfl) ?_
                      refine LW.noB rfl rfl rfl rfl (ne_beq (v := true) hq12 rfl) ?_
                      refine LW.pure rfl rfl (RV.pickTB rfl hq12 rfl) ?_
                      refine LW.nil (jK101 _ _ ⟨_, ?_, ⟨true, F, rfl, H⟩⟩)
                      exact ⟨rfl, rfl, rfl, rfl, rfl, rfl, rfl, rfl, (look_slice rfl (by first | rfl | (simp; done) | (simp; omega))), rfl, trivial⟩
                    ·
                      replace F := ite_n hp12 F
                      have hq12 := dec_f hp12
                      obtain ⟨hg3, F⟩ := gd_some F
                      refine CW.region ?_
                      refine LW.pure rfl rfl (RV.move rfl) ?_
                      refine LW.pure rfl rfl (RV.nei rfl rfl) ?_
                      refine LW.pure rfl rfl (RV.move rfl) ?_
                      refine LW.pureYB rfl rfl rfl rfl (not_f hq9) (RV.move rfl) ?_
                      refine LW.pureYB rfl rfl rfl rfl (not_f hq9) (RV.nei rfl rfl) ?_
                      refine LW.pure rfl rfl (RV.pickFB rfl (not_f hq9) rfl) ?_
                      refine LW.pure rfl rfl (RV.move rfl) ?_
                      refine LW.pureYB rfl rfl rfl rfl (not_f hq10) (RV.move rfl) ?_
                      refine LW.pureYB rfl rfl rfl rfl (not_f hq10) (RV.nei rfl rfl) ?_
                      refine LW.pure rfl rfl (RV.pickFB rfl (not_f hq10) rfl) ?_
                      refine LW.pure rfl rfl (RV.move rfl) ?_
                      refine LW.pureYB rfl rfl rfl rfl (not_f hq11) (RV.move rfl) ?_
                      refine LW.pureYB rfl rfl rfl rfl (not_f hq11) (RV.move rfl) ?_
                      refine LW.pureYB rfl rfl rfl rfl (not_f hq11) (RV.move rfl) ?_
                      refine LW.pureYB rfl rfl rfl rfl (not_f hq11) (RV.max2 rfl rfl) ?_
                      refine LW.pureYB rfl rfl rfl rfl (not_f hq11) (RV.add rfl rfl hg2) ?_
                      refine LW.pureYB rfl rfl rfl rfl (not_f hq11) (RV.gtr rfl rfl) ?_
                      refine LW.pure rfl rfl (RV.pickFB rfl (not_f hq11) rfl) ?_
                      refine LW.pure rfl rfl (RV.move rfl) ?_
                      refine LW.pureYB rfl rfl rfl rfl hq12 (RV.move rfl) ?_
                      refine LW.pureYB rfl rfl rfl rfl hq12 (RV.move rfl) ?_
                      refine LW.pureYB rfl rfl rfl rfl hq12 (RV.move rfl) ?_
                      refine LW.pureYB rfl rfl rfl rfl hq12 (RV.min2 rfl rfl) ?_
                      refine LW.pureYB rfl rfl rfl rfl hq12 (RV.add rfl rfl hg3) ?_
                      refine LW.pureYB rfl rfl rfl rfl hq12 (RV.lss rfl rfl) ?_
                      refine LW.pure rfl rfl (RV.pickFB rfl hq12 rfl) ?_
                      refine LW.nil (jK101 _ _ ⟨_, ?_, ⟨(decide (r6.1 < (r5.1 + (min a2 0)))), F, rfl, H⟩⟩)
                      exact ⟨rfl, rfl, rfl, rfl, rfl, rfl, rfl, rfl, (look_slice rfl (by first | rfl | (simp; done) | (simp; omega))), rfl, trivial⟩
                  ·
                    replace F := ite_n hp11 F
                    have hq11 := dec_f hp11
                    refine CW.region ?_
                    refine LW.pure rfl rfl (RV.move rfl) ?_
                    refine LW.pure rfl rfl (RV.nei rfl rfl) ?_
                    refine LW.pure rfl rfl (RV.move rfl) ?_
                    refine LW.pureYB rfl rfl rfl rfl (not_f hq9) (RV.move rfl) ?_
                    refine LW.pureYB rfl rfl rfl rfl (not_f hq9) (RV.nei rfl rfl) ?_
                    refine LW.pure rfl rfl (RV.pickFB rfl (not_f hq9) rfl) ?_
                    refine LW.pure rfl rfl (RV.move rfl) ?_
                    refine LW.pureYB rfl rfl rfl rfl (not_f hq10) (RV.move rfl) ?_
                    refine LW.pureYB rfl rfl rfl rfl (not_f hq10) (RV.nei rfl rfl) ?_
                    refine LW.pure rfl rfl (RV.pickFB rfl (not_f hq10) rfl) ?_
                    refine LW.pure rfl rfl (RV.move rfl) ?_
                    refine LW.noB rfl rfl rfl rfl (ne_beq (v := true) (not_t hq11) rfl) ?_
                    refine LW.noB rfl rfl rfl rfl (ne_beq (v := true) (not_t hq11) rfl) ?_
                    refine LW.noB rfl rfl rfl rfl (ne_beq (v := true) (not_t hq11) rfl) ?_
                    refine LW.noB rfl rfl rfl rfl (ne_beq (v := true) (not_t hq11) rfl) ?_
                    refine LW.noB rfl rfl rfl rfl (ne_beq (v := true) (not_t hq11) rfl) ?_
                    refine LW.noB rfl rfl rfl rfl (ne_beq (v := true) (not_t hq11) rfl) ?_
                    refine LW.pure rfl rfl (RV.pickTB rfl (not_t hq11) rfl) ?_
                    refine LW.pure rfl rfl (RV.move rfl) ?_
                    refine LW.noB rfl rfl rfl rfl (ne_beq (v := true) rfl rfl) ?_
                    refine LW.noB rfl rfl rfl rfl (ne_beq (v := true) rfl rfl) ?_
                    refine LW.noB rfl rfl rfl rfl (ne_beq (v := true) rfl rfl) ?_
                    refine LW.noB rfl rfl rfl rfl (ne_beq (v := true) rfl rfl) ?_
                    refine LW.noB rfl rfl rfl rfl (ne_beq (v := true) rfl rfl) ?_
                    refine LW.noB rfl rfl rfl rfl (ne_beq (v := true) rfl rfl) ?_
                    refine LW.pure rfl rfl (RV.pickTB rfl rfl rfl) ?_
                    refine LW.nil (jK101 _ _ ⟨_, ?_, ⟨true, F, rfl, H⟩⟩)
                    exact ⟨rfl, rfl, rfl, rfl, rfl, rfl, rfl, rfl, (look_slice rfl (by first | rfl | (simp; done) | (simp; omega))), rfl, trivial⟩
                ·
                  replace F := ite_n hp10 F
                  have hq10 := dec_f hp10
                  refine CW.region ?_
                  refine LW.pure rfl rfl (RV.move rfl) ?_
                  refine LW.pure rfl rfl (RV.nei rfl rfl) ?_
                  refine LW.pure rfl rfl (RV.move rfl) ?_
                  refine LW.pureYB rfl rfl rfl rfl (not_f hq9) (RV.move rfl) ?_
                  refine LW.pureYB rfl rfl rfl rfl (not_f hq9) (RV.nei rfl rfl) ?_
                  refine LW.pure rfl rfl (RV.pickFB rfl (not_f hq9) rfl) ?_
                  refine LW.pure rfl rfl (RV.move rfl) ?_
                  refine LW.noB rfl rfl rfl rfl (ne_beq (v := true) (not_t hq10) rfl) ?_
                  refine LW.noB rfl rfl rfl rfl (ne_beq (v := true) (not_t hq10) rfl) ?_
                  refine LW.pure rfl rfl (RV.pickTB rfl (not_t hq10) rfl) ?_
                  refine LW.pure rfl rfl (RV.move rfl) ?_
                  refine LW.noB rfl rfl rfl rfl (ne_beq (v := true) rfl rfl) ?_
                  refine LW.noB rfl rfl rfl rfl (ne_beq (v := true) rfl rfl) ?_
                  refine LW.noB rfl rfl rfl rfl (ne_beq (v := true) rfl rfl) ?_
                  refine LW.noB rfl rfl rfl rfl (ne_beq (v := true) rfl rfl) ?_
                  refine LW.noB rfl rfl rfl rfl (ne_beq (v := true) rfl rfl) ?_
                  refine LW.noB rfl rfl rfl rfl (ne_beq (v := true) rfl rfl) ?_
                  refine LW.pure rfl rfl (RV.pickTB rfl rfl rfl) ?_
                  refine LW.pure rfl rfl (RV.move rfl) ?_
                  refine LW.noB rfl rfl rfl rfl (ne_beq (v := true) rfl rfl) ?_
                  refine LW.noB rfl rfl rfl rfl (ne_beq (v := true) rfl rfl) ?_
                  refine LW.noB rfl rfl rfl rfl (ne_beq (v := true) rfl rfl) ?_
                  refine LW.noB rfl rfl rfl rfl (ne_beq (v := true) rfl rfl) ?_
                  refine LW.noB rfl rfl rfl rfl (ne_beq (v := true) rfl rfl) ?_
                  refine LW.noB rfl rfl rfl rfl (ne_beq (v := true) rfl rfl) ?_
                  refine LW.pure rfl rfl (RV.pickTB rfl rfl rfl) ?_
                  refine LW.nil (jK101 _ _ ⟨_, ?_, ⟨true, F, rfl, H⟩⟩)
                  exact ⟨rfl, rfl, rfl, rfl, rfl, rfl, rfl, rfl, (look_slice rfl (by first | rfl | (simp; done) | (simp; omega))), rfl, trivial⟩
              ·
                replace F := ite_n hp9 F
                have hq9 := dec_f hp9
                refine CW.region ?_
                refine LW.pure rfl rfl (RV.move rfl) ?_
                refine LW.pure rfl rfl (RV.nei rfl rfl) ?_
                refine LW.pure rfl rfl (RV.move rfl) ?_
                refine LW.noB rfl rfl rfl rfl (ne_beq (v := true) (not_t hq9) rfl) ?_
                refine LW.noB rfl rfl rfl rfl (ne_beq (v := true) (not_t hq9) rfl) ?_
                refine LW.pure rfl rfl (RV.pickTB rfl (not_t hq9) rfl) ?_
                refine LW.pure rfl rfl (RV.move rfl) ?_
                refine LW.noB rfl rfl rfl rfl (ne_beq (v := true) rfl rfl) ?_
                refine LW.noB rfl rfl rfl rfl (ne_beq (v := true) rfl rfl) ?_
                refine LW.pure rfl rfl (RV.pickTB rfl rfl rfl) ?_
                refine LW.pure rfl rfl (RV.move rfl) ?_
                refine LW.noB rfl rfl rfl rfl (ne_beq (v := true) rfl rfl) ?_
                refine LW.noB rfl rfl rfl rfl (ne_beq (v := true) rfl rfl) ?_
                refine LW.noB rfl rfl rfl rfl (ne_beq (v := true) rfl rfl) ?_
                refine LW.noB rfl rfl rfl rfl (ne_beq (v := true) rfl rfl) ?_
                refine LW.noB rfl rfl rfl rfl (ne_beq (v := true) rfl rfl) ?_
                refine LW.noB rfl rfl rfl rfl (ne_beq (v := true) rfl rfl) ?_
                refine LW.pure rfl rfl (RV.pickTB rfl rfl rfl) ?_
                refine LW.pure rfl rfl (RV.move rfl) ?_
                refine LW.noB rfl rfl rfl rfl (ne_beq (v := true) rfl rfl) ?_
                refine LW.noB rfl rfl rfl rfl (ne_beq (v := true) rfl rfl) ?_
                refine LW.noB rfl rfl rfl rfl (ne_beq (v := true) rfl rfl) ?_
                refine LW.noB rfl rfl rfl rfl (ne_beq (v := true) rfl rfl) ?_
                refine LW.noB rfl rfl rfl rfl (ne_beq (v := true) rfl rfl) ?_
                refine LW.noB rfl rfl rfl rfl (ne_beq (v := true) rfl rfl) ?_
                refine LW.pure rfl rfl (RV.pickTB rfl rfl rfl) ?_
                refine LW.nil (jK101 _ _ ⟨_, ?_, ⟨true, F, rfl, H⟩⟩)
                exact ⟨rfl, rfl, rfl, rfl, rfl, rfl, rfl, rfl, (look_slice rfl (by first | rfl | (simp; done) | (simp; omega))), rfl, trivial⟩
          ·
            replace F := ite_n hp5 F
            have hq5 := dec_f hp5
            refine CW.condF rfl hq5 ?_
            refine CW.skip (jK92 _ _ ⟨_, ?_, ⟨F, rfl, H⟩⟩)
            exact ⟨rfl, rfl, rfl, rfl, trivial⟩
    ·
      intro K26 hK26 jK102
      obtain ⟨r12, hr12, F⟩ := bnd_some F
      by_cases hp13 : r12 = true
      ·
        replace F := ite_y hp13 F
        have hq13 : r12 = true := hp13
        refine CW.region ?_
        refine LW.pure rfl rfl (RV.loadA [.int .i64 r4.1.nodes, .int .i64 r4.1.from_, .int .i64 r4.1.to_, .slice A27_0_drains r4.1.drains.length c27_0_drains] Tk24 rfl (H.blk 2 rfl).cells rfl rfl) ?_
        refine LW.pure rfl rfl (RV.loadA [.int .i64 r11.1.nodes, .int .i64 r11.1.from_, .int .i64 r11.1.to_, .slice A29_0_drains r11.1.drains.length c29_0_drains] Tk24 rfl (H.blk 0 rfl).cells rfl rfl) ?_
        refine LW.go rfl rfl (OW.call Tc24 rfl (ref02_Same_ok (a0 := r4.1) (a1 := r11.1) (H.own 3 rfl).sl (H.own 1 rfl).sl hr12) ?_)
        rintro _ w21 ⟨rfl, E13⟩
        refine ⟨_, rfl, ?_⟩
        replace H := H.grow E13
        replace R0 := H.ext
        refine LW.pure rfl rfl (RV.not rfl) ?_
        refine LW.pure rfl rfl (RV.move rfl) ?_
        refine LW.pureYB rfl rfl rfl rfl (not_f hq13) (RV.move rfl) ?_
        refine LW.pureYB rfl rfl rfl rfl (not_f hq13) (RV.move rfl) ?_
        refine LW.pureYB rfl rfl rfl rfl (not_f hq13) (RV.nei rfl rfl) ?_
        refine LW.pure rfl rfl (RV.pickFB rfl (not_f hq13) rfl) ?_
        replace H := H.pick (L' := [.own A25_0_drains c25_0_drains 52 3 (List.map encDrain r1.drains), .own A27_0_drains c27_0_drains 52 3 (List.map encDrain r4.1.drains), .blk b1 24 [.int .i64 a0.nodes, .int .i64 a0.from_, .int .i64 a0.to_, .slice A_a0_drains a0.drains.length c_a0_drains], .blk b2 24 [.int .i64 r1.nodes, .int .i64 r1.from_, .int .i64 r1.to_, .slice A25_0_drains r1.drains.length c25_0_drains], .blk b3 24 [.int .i64 r4.1.nodes, .int .i64 r4.1.from_, .int .i64 r4.1.to_, .slice A27_0_drains r4.1.drains.length c27_0_drains]]) [5, 3, 6, 4, 2] (by decide) rfl
        replace R0 := H.ext
        refine LW.nil (jK102 _ _ ⟨_, ?_, ⟨(!(decide (r4.2 = r11.2))), F, rfl, H⟩⟩)
        exact ⟨rfl, rfl, rfl, rfl, rfl, rfl, rfl, rfl, trivial⟩
      ·
        replace F := ite_n hp13 F
        have hq13 : r12 = false := raw_f hp13
        refine CW.region ?_
        refine LW.pure rfl rfl (RV.loadA [.int .i64 r4.1.nodes, .int .i64 r4.1.from_, .int .i64 r4.1.to_, .slice A27_0_drains r4.1.drains.length c27_0_drains] Tk24 rfl (H.blk 2 rfl).cells rfl rfl) ?_
        refine LW.pure rfl rfl (RV.loadA [.int .i64 r11.1.nodes, .int .i64 r11.1.from_, .int .i64 r11.1.to_, .slice A29_0_drains r11.1.drains.length c29_0_drains] Tk24 rfl (H.blk 0 rfl).cells rfl rfl) ?_
        refine LW.go rfl rfl (OW.call Tc24 rfl (ref02_Same_ok (a0 := r4.1) (a1 := r11.1) (H.own 3 rfl).sl (H.own 1 rfl).sl hr12) ?_)
        rintro _ w22 ⟨rfl, E14⟩
        refine ⟨_, rfl, ?_⟩
        replace H := H.grow E14
        replace R0 := H.ext
        refine LW.pure rfl rfl (RV.not rfl) ?_
        refine LW.pure rfl rfl (RV.move rfl) ?_
        refine LW.noB rfl rfl rfl rfl (ne_beq (v := true) (not_t hq13) rfl) ?_
        refine LW.noB rfl rfl rfl rfl (ne_beq (v := true) (not_t hq13) rfl) ?_
        refine LW.noB rfl rfl rfl rfl (ne_beq (v := true) (not_t hq13) rfl) ?_
        refine LW.pure rfl rfl (RV.pickTB rfl (not_t hq13) rfl) ?_
        replace H := H.pick (L' := [.own A25_0_drains c25_0_drains 52 3 (List.map encDrain r1.drains), .own A27_0_drains c27_0_drains 52 3 (List.map encDrain r4.1.drains), .blk b1 24 [.int .i64 a0.nodes, .int .i64 a0.from_, .int .i64 a0.to_, .slice A_a0_drains a0.drains.length c_a0_drains], .blk b2 24 [.int .i64 r1.nodes, .int .i64 r1.from_, .int .i64 r1.to_, .slice A25_0_drains r1.drains.length c25_0_drains], .blk b3 24 [.int .i64 r4.1.nodes, .int .i64 r4.1.from_, .int .i64 r4.1.to_, .slice A27_0_drains r4.1.drains.length c27_0_drains]]) [5, 3, 6, 4, 2] (by decide) rfl
        replace R0 := H.ext
        refine LW.nil (jK102 _ _ ⟨_, ?_, ⟨true, F, rfl, H⟩⟩)
        exact ⟨rfl, rfl, rfl, rfl, rfl, rfl, rfl, rfl, trivial⟩
end Go.D2

namespace Go.Tb
/-- A loop over 0 .. N - 1 with a state, that is left at the first i for which p does not hold. -/
theorem scan_loop {S R : Type} (N : Nat) (p : Nat → Bool) (g : Nat → S) (L : Nat → S → Int → Option R) (yes : Option R) (no : Nat → Option R)
    (step : ∀ n i : Nat, i < N → L (n + 1) (g i) (i : Int) = if p i = true then L n (g (i + 1)) ((i + 1 : Nat) : Int) else no i)
    (stop : ∀ n : Nat, L (n + 1) (g N) (N : Int) = yes) : ∀ (d n i : Nat), N = i + d → d < n → L n (g i) (i : Int) = match (List.range' i d).find? (fun j => !p j) with | none => yes | some j => no j
  | 0, n + 1, i, hd, hn => by
    have hi : i = N := by omega
    subst hi
    rw [stop n]; rfl
  | d + 1, n + 1, i, hd, hn => by
    rw [step n i (by omega), List.range'_succ, List.find?_cons]
    cases hp : p i
    · simp
    · simp only [if_true, Bool.not_true]
      exact scan_loop N p g L yes no step stop d n (i + 1) (by omega) (by omega)
theorem find_all {p : Nat → Bool} {i d : Nat} : (List.range' i d).find? (fun j => !p j) = none ↔ ∀ j, i ≤ j → j < i + d → p j = true := by
  rw [List.find?_eq_none]
  constructor
  · intro h j h1 h2
    have := h j (by rw [List.mem_range'_1]; omega)
    simpa using this
  · intro h x hx
    rw [List.mem_range'_1] at hx
    simp [h x hx.1 hx.2]
/-- A loop over 0 .. N - 1 with a state and no way out. -/
theorem for_loop {S R : Type} (N : Nat) (g : Nat → S) (L : Nat → S → Int → Option R) (yes : Option R)
    (step : ∀ n i : Nat, i < N → L (n + 1) (g i) (i : Int) = L n (g (i + 1)) ((i + 1 : Nat) : Int))
    (stop : ∀ n : Nat, L (n + 1) (g N) (N : Int) = yes) : ∀ (d n i : Nat), N = i + d → d < n → L n (g i) (i : Int) = yes
  | 0, n + 1, i, hd, hn => by
    have hi : i = N := by omega
    subst hi
    exact stop n
  | d + 1, n + 1, i, hd, hn => by
    rw [step n i (by omega)]
    exact for_loop N g L yes step stop d n (i + 1) (by omega) (by omega)
theorem for_loop0 {S R : Type} (N : Nat) (g : Nat → S) (L : Nat → S → Int → Option R) (yes : Option R)
    (step : ∀ n i : Nat, i < N → L (n + 1) (g i) (i : Int) = L n (g (i + 1)) ((i + 1 : Nat) : Int))
    (stop : ∀ n : Nat, L (n + 1) (g N) (N : Int) = yes) (hN : N ≤ 9223372036854775807) : L FU (g 0) 0 = yes :=
  for_loop N g L yes step stop N FU 0 (by omega) (by have := FU_pos; omega)
theorem scan_loop0 {S R : Type} (N : Nat) (p : Nat → Bool) (g : Nat → S) (L : Nat → S → Int → Option R) (yes no : Option R)
    (step : ∀ n i : Nat, i < N → L (n + 1) (g i) (i : Int) = if p i = true then L n (g (i + 1)) ((i + 1 : Nat) : Int) else no)
    (stop : ∀ n : Nat, L (n + 1) (g N) (N : Int) = yes) (hN : N ≤ 9223372036854775807) : L FU (g 0) 0 = if (∀ j, j < N → p j = true) then yes else no := by
  have h := scan_loop N p g L yes (fun _ => no) step stop N FU 0 (by omega) (by have := FU_pos; omega)
  refine Eq.trans h ?_
  cases hf : (List.range' 0 N).find? (fun j => !p j) with
  | none => rw [if_pos (fun j hj => find_all.1 hf j (by omega) (by omega))]
  | some j =>
    have h1 := List.find?_some hf
    have h2 := List.mem_of_find?_eq_some hf
    rw [List.mem_range'_1] at h2
    rw [if_neg]
    intro hall
    have := hall j (by omega)
    simp [this] at h1
/-- The same over the elements of a list. -/
theorem list_loop0 {α R : Type} (l : List α) (p : α → Bool) (L : Nat → Int → Option R) (yes no : Option R)
    (step : ∀ (n i : Nat) (x : α), l[i]? = some x → L (n + 1) (i : Int) = if p x = true then L n ((i + 1 : Nat) : Int) else no)
    (stop : ∀ n : Nat, L (n + 1) (l.length : Int) = yes) (hl : l.length ≤ 9223372036854775807) : L FU 0 = if l.all p = true then yes else no := by
  have h := scan_loop0 l.length (fun i => (l[i]?.map p).getD true) (fun _ => ()) (fun n _ i => L n i) yes no (fun n i hi => by
    have hx : l[i]? = some l[i] := by simp [hi]
    rw [step n i _ hx]; simp [hx]) stop hl
  refine Eq.trans h ?_
  by_cases ha : l.all p = true
  · rw [if_pos ha, if_pos]
    intro j hj
    have := List.all_eq_true.1 ha l[j] (List.getElem_mem hj)
    simp [hj, this]
  · rw [if_neg ha, if_neg]
    intro hc
    refine ha (List.all_eq_true.2 fun x hx => ?_)
    obtain ⟨j, hj⟩ := List.getElem?_of_mem hx
    have := hc j (lt_of_at hj)
    simpa [hj] using this
end Go.Tb

set_option linter.unusedVariables false
set_option linter.unusedSimpArgs false
namespace Go.D2
open Go.Tb
theorem known_eq : law02_known = some true := by decide +kernel
theorem for0 {S R : Type} (N : Nat) (g : Nat → S) (L : Nat → S → Int → Option R) (yes : Option R) {s0 : S} (h0 : g 0 = s0)
    (step : ∀ n i : Nat, i < N → L (n + 1) (g i) (i : Int) = L n (g (i + 1)) ((i + 1 : Nat) : Int))
    (stop : ∀ n : Nat, L (n + 1) (g N) (N : Int) = yes) (hN : N ≤ 9223372036854775807) : L FU s0 0 = yes := by
  rw [← h0]; exact for_loop0 N g L yes step stop hN
def within (n lo hi : Int) : Bool := decide (lo ≤ n) && decide (n ≤ hi)
theorem within_iff {n lo hi : Int} : within n lo hi = true ↔ lo ≤ n ∧ n ≤ hi := by unfold within; simp
theorem from_eq (n lo hi : Int) : drain_from n lo hi = some (within n lo hi) := by
  unfold drain_from within
  by_cases h : lo ≤ n <;> simp [h]
theorem within_eq (n lo hi : Int) : ref02_within n lo hi = some (within n lo hi) := by
  unfold ref02_within within
  by_cases h : lo ≤ n <;> simp [h]
def isNode (n : Net) (i : Int) : Bool := within i 0 (n.nodes - 1)
theorem isNode_eq {n : Net} (h : InR (n.nodes - 1)) (i : Int) : drain_isNode n i = some (isNode n i) := by
  unfold drain_isNode isNode
  rw [gd_pos h, bnd_eq (from_eq _ _ _)]
def okD (n : Net) (d : Drain) : Bool := isNode n d.from_ && isNode n d.to_ && !decide (d.from_ = d.to_) && within d.width 0 20
def okH (n : Net) : Bool := within n.nodes 2 8 && isNode n n.from_ && isNode n n.to_ && !decide (n.from_ = n.to_)
def validate (n : Net) : Int := if okH n = true then (if 16 < n.drains.length then 3 else if n.drains.all (okD n) = true then 0 else 1) else 1
theorem Validate_eq {n : Net} (hl : n.drains.length ≤ 1000) : drain_Validate n = some (validate n) := by
  unfold drain_Validate validate okH
  rw [bnd_eq (from_eq _ _ _)]
  cases h1 : within n.nodes 2 8
  · rw [if_neg (by simp)]; unfold drain_Validate_k3; rw [if_pos rfl, if_neg (by simp)]
  · have hn := within_iff.1 h1
    have hr : InR (n.nodes - 1) := by omega
    rw [if_pos rfl, bnd_eq (isNode_eq hr _)]
    cases h2 : isNode n n.from_
    · rw [if_neg (by simp)]; unfold drain_Validate_k3; rw [if_pos rfl, if_neg (by simp)]
    · rw [if_pos rfl, bnd_eq (isNode_eq hr _)]
      cases h3 : isNode n n.to_
      · rw [if_neg (by simp)]; unfold drain_Validate_k3; rw [if_pos rfl, if_neg (by simp)]
      · rw [if_pos rfl]
        unfold drain_Validate_k3
        by_cases h4 : n.from_ = n.to_
        · rw [if_pos (by simp [h4]), if_neg (show ¬ (true && true && true && !decide (n.from_ = n.to_)) = true by simp [h4])]
        · rw [if_neg (by simp [h4]), if_pos (show (true && true && true && !decide (n.from_ = n.to_)) = true by simp [h4])]
          by_cases h5 : 16 < n.drains.length
          · rw [if_pos (by omega), if_pos h5]
          · rw [if_neg (by omega), if_neg h5, list_loop0 n.drains (okD n) (drain_Validate_L1 n) (some 0) (some 1) (fun m i x hx => ?_) (fun m => ?_) (by omega)]
            · split <;> rfl
            · have := lt_of_at hx
              show drain_Validate_B1 n (drain_Validate_L1 n m) _ = _
              unfold drain_Validate_B1 okD
              rw [if_pos (by omega), ix_nat hx, bnd_eq (isNode_eq hr _)]
              unfold drain_Validate_k2
              cases isNode n x.from_
              · rw [if_neg (by simp), if_pos rfl, if_neg (by simp)]
              · rw [if_pos rfl, bnd_eq (isNode_eq hr _)]
                cases isNode n x.to_
                · rw [if_neg (by simp), if_pos rfl, if_neg (by simp)]
                · rw [if_pos rfl]
                  by_cases h6 : x.from_ = x.to_
                  · rw [if_pos h6, if_pos rfl, if_neg (by simp [h6])]
                  · rw [if_neg h6, bnd_eq (from_eq _ _ _)]
                    cases within x.width 0 20
                    · rw [if_pos (by rfl), if_neg (by simp)]
                    · rw [if_neg (by simp), gd_pos (by omega), if_pos (by simp [h6])]; rfl
            · show drain_Validate_B1 n (drain_Validate_L1 n m) _ = _
              unfold drain_Validate_B1
              rw [if_neg (by omega)]; rfl
theorem rValidate_eq {n : Net} (hl : n.drains.length ≤ 1000) : ref02_Validate n = some (validate n) := by
  unfold ref02_Validate validate okH isNode
  rw [bnd_eq (within_eq _ _ _)]
  cases h1 : within n.nodes 2 8
  · rw [if_neg (by simp)]; unfold ref02_Validate_k3; rw [if_pos rfl, if_neg (by simp)]
  · have hn := within_iff.1 h1
    have hr : InR (n.nodes - 1) := by omega
    rw [if_pos rfl, gd_pos hr, bnd_eq (within_eq _ _ _)]
    cases h2 : within n.from_ 0 (n.nodes - 1)
    · rw [if_neg (by simp)]; unfold ref02_Validate_k3; rw [if_pos rfl, if_neg (by simp)]
    · rw [if_pos rfl, gd_pos hr, bnd_eq (within_eq _ _ _)]
      cases h3 : within n.to_ 0 (n.nodes - 1)
      · rw [if_neg (by simp)]; unfold ref02_Validate_k3; rw [if_pos rfl, if_neg (by simp)]
      · rw [if_pos rfl]
        unfold ref02_Validate_k3
        by_cases h4 : n.from_ = n.to_
        · rw [if_pos (by simp [h4]), if_neg (show ¬ (true && true && true && !decide (n.from_ = n.to_)) = true by simp [h4])]
        · rw [if_neg (by simp [h4]), if_pos (show (true && true && true && !decide (n.from_ = n.to_)) = true by simp [h4])]
          by_cases h5 : 16 < n.drains.length
          · rw [if_pos (by omega), if_pos h5]
          · rw [if_neg (by omega), if_neg h5, list_loop0 n.drains (okD n) (ref02_Validate_L1 n) (some 0) (some 1) (fun m i x hx => ?_) (fun m => ?_) (by omega)]
            · split <;> rfl
            · have := lt_of_at hx
              show ref02_Validate_B1 n (ref02_Validate_L1 n m) _ = _
              unfold ref02_Validate_B1 okD isNode
              rw [if_pos (by omega), ix_nat hx, gd_pos hr, bnd_eq (within_eq _ _ _)]
              unfold ref02_Validate_k2
              cases within x.from_ 0 (n.nodes - 1)
              · rw [if_neg (by simp), if_pos rfl, if_neg (by simp)]
              · rw [if_pos rfl, gd_pos hr, bnd_eq (within_eq _ _ _)]
                cases within x.to_ 0 (n.nodes - 1)
                · rw [if_neg (by simp), if_pos rfl, if_neg (by simp)]
                · rw [if_pos rfl]
                  by_cases h6 : x.from_ = x.to_
                  · rw [if_pos h6, if_pos rfl, if_neg (by simp [h6])]
                  · rw [if_neg h6, bnd_eq (within_eq _ _ _)]
                    cases within x.width 0 20
                    · rw [if_pos (by rfl), if_neg (by simp)]
                    · rw [if_neg (by simp), gd_pos (by omega), if_pos (by simp [h6])]; rfl
            · show ref02_Validate_B1 n (ref02_Validate_L1 n m) _ = _
              unfold ref02_Validate_B1
              rw [if_neg (by omega)]; rfl
/-- A net that is right, but for how wide its drains are. -/
structure Net0 (n : Net) : Prop where
  n2 : 2 ≤ n.nodes
  n8 : n.nodes ≤ 8
  s0 : 0 ≤ n.from_ ∧ n.from_ < n.nodes
  t0 : 0 ≤ n.to_ ∧ n.to_ < n.nodes
  ne : n.from_ ≠ n.to_
  len : n.drains.length ≤ 16
  dr : ∀ d ∈ n.drains, (0 ≤ d.from_ ∧ d.from_ < n.nodes) ∧ (0 ≤ d.to_ ∧ d.to_ < n.nodes) ∧ d.from_ ≠ d.to_ ∧ 0 ≤ d.width ∧ d.width ≤ 1000
structure NetOk (n : Net) : Prop extends Net0 n where
  w20 : ∀ d ∈ n.drains, d.width ≤ 20
theorem val0 {n : Net} : validate n = 0 ↔ NetOk n := by
  unfold validate
  constructor
  · intro h
    split at h
    · rename_i hh
      split at h
      · cases h
      · split at h
        · rename_i hl ha
          unfold okH isNode at hh
          simp only [Bool.and_eq_true, within_iff, Bool.not_eq_true', decide_eq_false_iff_not] at hh
          obtain ⟨⟨⟨h1, h2⟩, h3⟩, h4⟩ := hh
          have hd : ∀ d ∈ n.drains, (0 ≤ d.from_ ∧ d.from_ ≤ n.nodes - 1) ∧ (0 ≤ d.to_ ∧ d.to_ ≤ n.nodes - 1) ∧ d.from_ ≠ d.to_ ∧ 0 ≤ d.width ∧ d.width ≤ 20 := fun d hd => by
            have := List.all_eq_true.1 ha d hd
            unfold okD isNode at this
            simp only [Bool.and_eq_true, within_iff, Bool.not_eq_true', decide_eq_false_iff_not] at this
            obtain ⟨⟨⟨a1, a2⟩, a3⟩, a4⟩ := this
            exact ⟨a1, a2, a3, a4.1, a4.2⟩
          exact ⟨⟨h1.1, h1.2, by omega, by omega, h4, by omega, fun d hd' => by have := hd d hd'; exact ⟨by omega, by omega, this.2.2.1, by omega, by omega⟩⟩, fun d hd' => (hd d hd').2.2.2.2⟩
        · cases h
    · cases h
  · intro h
    rw [if_pos, if_neg (by have := h.len; omega), if_pos]
    · rw [List.all_eq_true]
      intro d hd
      have := h.dr d hd
      have h20 := h.w20 d hd
      unfold okD isNode
      simp only [Bool.and_eq_true, within_iff, Bool.not_eq_true', decide_eq_false_iff_not]
      exact ⟨⟨⟨by omega, by omega⟩, this.2.2.1⟩, by omega⟩
    · have h1 := h.n2; have h2 := h.n8; have h3 := h.s0; have h4 := h.t0
      unfold okH isNode
      simp only [Bool.and_eq_true, within_iff, Bool.not_eq_true', decide_eq_false_iff_not]
      exact ⟨⟨⟨by omega, by omega⟩, by omega⟩, h.ne⟩
end Go.D2

set_option linter.unusedVariables false
set_option linter.unusedSimpArgs false
namespace Go.D2
open Go.Tb
def Eds (l : List Left) : List Ed := l.map toEd
def Caps (l : List Left) : Prop := ∀ d ∈ l, 0 ≤ d.runs ∧ d.runs ≤ d.drain.width ∧ d.drain.width ≤ 1000
theorem eds_at {l : List Left} {i : Nat} {e : Ed} (h : (Eds l)[i]? = some e) : ∃ d, l[i]? = some d ∧ e = toEd d := by
  unfold Eds at h
  rw [List.getElem?_map] at h
  cases hd : l[i]? with
  | none => rw [hd] at h; cases h
  | some d => rw [hd] at h; cases h; exact ⟨d, rfl, rfl⟩
theorem caps_room {l : List Left} (h : Caps l) : RoomOk (Eds l) := fun e he => by
  obtain ⟨d, hd, rfl⟩ := List.mem_map.1 he
  have := h d hd
  show InR d.runs ∧ InR (d.drain.width - d.runs)
  omega
theorem left_room_eq {d : Left} {u : Int} (h : 0 ≤ d.runs ∧ d.runs ≤ d.drain.width ∧ d.drain.width ≤ 1000) : drain_left_room d u = some (other (toEd d) u, room (toEd d) u) := by
  unfold drain_left_room other room
  by_cases h1 : d.drain.from_ = u
  · have h2 : (toEd d).a = u := h1
    rw [if_pos h1, if_pos h2, if_pos h2]; exact gd_pos (by omega)
  · have h2 : ¬ (toEd d).a = u := h1
    rw [if_neg h1, if_neg h2, if_neg h2]; rfl
def ints (ks : List Nat) : List Int := ks.map (fun (q : Nat) => (q : Int))
theorem ints_at {pre suf : List Nat} {i : Nat} : (ints (pre ++ i :: suf))[pre.length]? = some (i : Int) := by
  unfold ints
  rw [List.getElem?_map, List.getElem?_append_right (Nat.le_refl _)]; simp
/-- The smallest room along a way. -/
def minRoom (E : List Ed) : Int → Int → List Nat → Int
  | _, m, [] => m
  | u, m, i :: r => match E[i]? with
    | some e => minRoom E (other e u) (if m < 0 ∨ room e u < m then room e u else m) r
    | none => m
theorem minRoom_spec {E : List Ed} : ∀ (ks : List Nat) (vis : List Int) (u v m : Int), SP E vis u ks v → (0 < m ∨ (m < 0 ∧ ks ≠ [])) → 0 < minRoom E u m ks ∧ (0 < m → minRoom E u m ks ≤ m) ∧ AllRoom E (minRoom E u m ks) u ks
  | [], vis, u, v, m, h, hm => by
    rcases hm with h1 | ⟨_, h1⟩
    · exact ⟨h1, fun _ => Int.le_refl _, trivial⟩
    · exact absurd rfl h1
  | i :: r, vis, u, v, m, h, hm => by
    obtain ⟨e, he, hu, hp, hn, hr⟩ := h
    have e1 : minRoom E u m (i :: r) = minRoom E (other e u) (if m < 0 ∨ room e u < m then room e u else m) r := by simp only [minRoom, he]
    rw [e1]
    have hm' : 0 < (if m < 0 ∨ room e u < m then room e u else m) := by
      split
      · exact hp
      · rename_i hc
        rcases hm with h1 | ⟨h1, h1'⟩
        · exact h1
        · exact absurd (.inl h1) hc
    obtain ⟨i1, i2, i3⟩ := minRoom_spec r (u :: vis) (other e u) v _ hr (.inl hm')
    have i2 := i2 hm'
    generalize minRoom E (other e u) (if m < 0 ∨ room e u < m then room e u else m) r = q at *
    refine ⟨i1, fun h0 => ?_, e, he, ?_, i3⟩
    · split at i2 <;> omega
    · split at i2
      · exact i2
      · rename_i hc; omega
theorem run_L2 {n : Net} {l : List Left} (hc : Caps l) (rec2 : List Left → Option (List Left)) {ks : List Nat} (hk : ks.length ≤ 1000) : ∀ (suf pre : List Nat) (vis : List Int) (u v m : Int) (k : Nat), ks = pre ++ suf → SP (Eds l) vis u suf v → suf.length < k →
    drain_run_L2 n l rec2 (ints ks) k u m (pre.length : Int) = drain_run_k2 n l rec2 (ints ks) (minRoom (Eds l) u m suf)
  | [], pre, vis, u, v, m, k + 1, hks, h, hlt => by
    show drain_run_B2 n l rec2 (ints ks) (drain_run_L2 n l rec2 (ints ks) k) u m _ = _
    unfold drain_run_B2
    rw [if_neg (by rw [hks]; simp [ints])]; rfl
  | i :: r, pre, vis, u, v, m, k + 1, hks, h, hlt => by
    have h0 := h
    obtain ⟨e, he, hu, hp, hn, hr⟩ := h
    obtain ⟨d, hd, rfl⟩ := eds_at he
    have hcd := hc d (List.mem_of_getElem? hd)
    have hpl : pre.length < 1000 := by rw [hks] at hk; simp at hk; omega
    have ih := run_L2 (n := n) hc rec2 hk r (pre ++ [i]) (u :: vis) (other (toEd d) u) v (if m < 0 ∨ room (toEd d) u < m then room (toEd d) u else m) k (by rw [hks]; simp) hr (by simp at hlt; omega)
    have e1 : minRoom (Eds l) u m (i :: r) = minRoom (Eds l) (other (toEd d) u) (if m < 0 ∨ room (toEd d) u < m then room (toEd d) u else m) r := by simp only [minRoom, he]
    have e2 : (((pre ++ [i]).length : Nat) : Int) = (pre.length : Int) + 1 := by simp
    rw [e1, ← ih, e2]
    show drain_run_B2 n l rec2 (ints ks) (drain_run_L2 n l rec2 (ints ks) k) u m _ = _
    unfold drain_run_B2
    have hi : (ints ks)[pre.length]? = some (i : Int) := by rw [hks]; exact ints_at
    rw [if_pos (by have := lt_of_at hi; omega), ix_nat hi, ix_nat hd, bnd_eq (left_room_eq hcd)]
    unfold drain_run_k4 drain_run_k3
    by_cases h1 : m < 0
    · rw [if_pos h1, if_pos rfl, gd_pos (by omega), if_pos (.inl h1)]
    · rw [if_neg h1]
      by_cases h2 : room (toEd d) u < m
      · rw [if_pos (by simpa using h2), gd_pos (by omega), if_pos (.inr h2)]
      · rw [if_neg (by simpa using h2), gd_pos (by omega), if_neg (by omega)]
def moreL (m : Int) (d : Left) (u : Int) : Left := if d.drain.from_ = u then ⟨d.drain, d.runs + m⟩ else ⟨d.drain, d.runs - m⟩
theorem moreL_ed (m : Int) (d : Left) (u : Int) : toEd (moreL m d u) = more m (toEd d) u := by
  unfold moreL more
  by_cases h : d.drain.from_ = u
  · have h2 : (toEd d).a = u := h
    rw [if_pos h, if_pos h2]; rfl
  · have h2 : ¬ (toEd d).a = u := h
    rw [if_neg h, if_neg h2]; rfl
def augL (m : Int) : List Left → Int → List Nat → List Left
  | l, _, [] => l
  | l, u, i :: r => match l[i]? with
    | some d => augL m (l.set i (moreL m d u)) (other (toEd d) u) r
    | none => l
theorem eds_set {l : List Left} {i : Nat} {m : Int} {d : Left} {u : Int} : Eds (l.set i (moreL m d u)) = (Eds l).set i (more m (toEd d) u) := by
  unfold Eds
  rw [List.map_set, moreL_ed]
theorem augL_ed {m : Int} : ∀ (ks : List Nat) (l : List Left) (u : Int), Eds (augL m l u ks) = aug m (Eds l) u ks
  | [], l, u => rfl
  | i :: r, l, u => by
    cases hd : l[i]? with
    | none =>
      have he : (Eds l)[i]? = none := by unfold Eds; rw [List.getElem?_map, hd]; rfl
      simp only [augL, aug, hd, he]
    | some d =>
      have he : (Eds l)[i]? = some (toEd d) := by unfold Eds; rw [List.getElem?_map, hd]; rfl
      simp only [augL, aug, hd, he]
      rw [augL_ed r, eds_set]
theorem augL_drains {m : Int} : ∀ (ks : List Nat) (l : List Left) (u : Int), (augL m l u ks).map Left.drain = l.map Left.drain
  | [], l, u => rfl
  | i :: r, l, u => by
    cases hd : l[i]? with
    | none => simp only [augL, hd]
    | some d =>
      simp only [augL, hd]
      rw [augL_drains r, List.map_set]
      have : (moreL m d u).drain = d.drain := by unfold moreL; split <;> rfl
      rw [this]
      apply List.ext_getElem?
      intro j
      rw [List.getElem?_set]
      by_cases h : i = j
      · subst h
        have := lt_of_at hd
        rw [if_pos rfl, if_pos (by simpa using this), List.getElem?_map, hd]; rfl
      · rw [if_neg h]
theorem caps_set {l : List Left} {i : Nat} {d d' : Left} (hc : Caps l) (h : 0 ≤ d'.runs ∧ d'.runs ≤ d'.drain.width ∧ d'.drain.width ≤ 1000) : Caps (l.set i d') := fun x hx => by
  rcases List.mem_or_eq_of_mem_set hx with h1 | rfl
  · exact hc x h1
  · exact h
theorem run_L1 (rec2 : List Left → Option (List Left)) {ks : List Nat} (hk : ks.length ≤ 1000) {m : Int} (hm : 0 ≤ m ∧ m ≤ 1000) : ∀ (suf pre : List Nat) (vis : List Int) (u v : Int) (l : List Left) (k : Nat), ks = pre ++ suf → Caps l → SP (Eds l) vis u suf v → AllRoom (Eds l) m u suf → suf.length < k →
    drain_run_L1 rec2 (ints ks) m k u (pre.length : Int) l = rec2 (augL m l u suf)
  | [], pre, vis, u, v, l, k + 1, hks, hc, h, ha, hlt => by
    show drain_run_B1 rec2 (ints ks) m (drain_run_L1 rec2 (ints ks) m k) u _ l = _
    unfold drain_run_B1
    rw [if_neg (by rw [hks]; simp [ints])]; rfl
  | i :: r, pre, vis, u, v, l, k + 1, hks, hc, h, ha, hlt => by
    have honce := sp_once h
    obtain ⟨e, he, hu, hp, hn, hr⟩ := h
    obtain ⟨e0, he0, hmr, har⟩ := ha
    rw [he] at he0; cases he0
    obtain ⟨d, hd, rfl⟩ := eds_at he
    have hcd := hc d (List.mem_of_getElem? hd)
    have hpl : pre.length < 1000 := by rw [hks] at hk; simp at hk; omega
    have hcong : ∀ j ∈ r, (Eds (l.set i (moreL m d u)))[j]? = (Eds l)[j]? := fun j hj => by
      rw [eds_set, List.getElem?_set_ne (fun h : i = j => honce (by rw [h]; exact hj))]
    have hcm : 0 ≤ (moreL m d u).runs ∧ (moreL m d u).runs ≤ (moreL m d u).drain.width ∧ (moreL m d u).drain.width ≤ 1000 := by
      unfold room at hmr
      unfold moreL
      by_cases h1 : d.drain.from_ = u
      · have h2 : (toEd d).a = u := h1
        rw [if_pos h2] at hmr
        rw [if_pos h1]
        have : m ≤ d.drain.width - d.runs := hmr
        simp only; omega
      · have h2 : ¬ (toEd d).a = u := h1
        rw [if_neg h2] at hmr
        rw [if_neg h1]
        have : m ≤ d.runs := hmr
        simp only; omega
    have ih := run_L1 rec2 hk hm r (pre ++ [i]) (u :: vis) (other (toEd d) u) v (l.set i (moreL m d u)) k (by rw [hks]; simp) (caps_set (d := d) hc hcm) (sp_congr r _ _ v hcong hr) (allRoom_congr r _ hcong har) (by simp at hlt; omega)
    have e1 : augL m l u (i :: r) = augL m (l.set i (moreL m d u)) (other (toEd d) u) r := by simp only [augL, hd]
    have e2 : (((pre ++ [i]).length : Nat) : Int) = (pre.length : Int) + 1 := by simp
    rw [e1, ← ih, e2]
    show drain_run_B1 rec2 (ints ks) m (drain_run_L1 rec2 (ints ks) m k) u _ l = _
    unfold drain_run_B1
    have hi : (ints ks)[pre.length]? = some (i : Int) := by rw [hks]; exact ints_at
    rw [if_pos (by have := lt_of_at hi; omega), ix_nat hi, ix_nat hd, bnd_eq (left_room_eq hcd), ix_nat hd]
    unfold drain_run_k1 moreL
    by_cases h1 : d.drain.from_ = u
    · rw [if_pos h1, ix_nat hd, gd_pos (by omega), ix_nat hd, gd_pos (by omega), if_pos h1]; rfl
    · rw [if_neg h1, ix_nat hd, gd_pos (by omega), ix_nat hd, gd_pos (by omega), if_neg h1]; rfl
/-- What is known of the program's drains. -/
structure FlowL (n : Net) (l : List Left) : Prop where
  drains : l.map Left.drain = n.drains
  flow : Flow n.nodes.toNat n.from_ n.to_ (Eds l)
  caps : Caps l
theorem flowL_ne {n : Net} {l : List Left} (hn : Net0 n) (h : FlowL n l) : ∀ e ∈ Eds l, e.a ≠ e.b := fun e he => by
  obtain ⟨d, hd, rfl⟩ := List.mem_map.1 he
  have : d.drain ∈ n.drains := by rw [← h.drains]; exact List.mem_map_of_mem hd
  exact (hn.dr _ this).2.2.1
theorem sp_len {E : List Ed} : ∀ (ks : List Nat) (vis : List Int) (u v : Int), SP E vis u ks v → (∀ i ∈ ks, i < E.length) ∧ ks.Nodup
  | [], _, _, _, _ => ⟨by simp, List.nodup_nil⟩
  | i :: r, vis, u, v, h => by
    have h1 := sp_once h
    obtain ⟨e, he, _, _, _, hr⟩ := h
    have ⟨i1, i2⟩ := sp_len r _ _ _ hr
    exact ⟨fun j hj => by
      rcases List.mem_cons.1 hj with rfl | hj
      · exact lt_at he
      · exact i1 j hj, List.nodup_cons.2 ⟨h1, i2⟩⟩
theorem nodup_len : ∀ (n : Nat) (ks : List Nat), (∀ i ∈ ks, i < n) → ks.Nodup → ks.length ≤ n
  | 0, [], _, _ => Nat.le_refl _
  | 0, i :: r, h, _ => absurd (h i (List.mem_cons_self ..)) (by omega)
  | n + 1, ks, h, hd => by
    have h1 : (ks.erase n).length ≤ n := nodup_len n (ks.erase n) (fun i hi => by
      have h2 := h i (List.mem_of_mem_erase hi)
      have h3 : i ≠ n := fun e => by rw [e] at hi; exact (List.Nodup.mem_erase_iff hd).1 hi |>.1 rfl
      omega) (hd.erase n)
    have := List.length_erase_le (a := n) (l := ks)
    by_cases hm : n ∈ ks
    · have := List.length_erase_of_mem hm; omega
    · rw [List.erase_of_not_mem hm] at h1; omega
/-- The search in the program's drains. -/
theorem search_eq {n : Net} {l : List Left} (hn : Net0 n) (h : FlowL n l) {s t : Int} (hs : 0 ≤ s ∧ s < n.nodes) (hst : s ≠ t) :
    (∃ ks : List Nat, ks ≠ [] ∧ ks.length ≤ 1000 ∧ drain_search l s t = some (ints ks) ∧ SP (Eds l) [] s ks t) ∨ (drain_search l s t = some [] ∧ ∃ S : Int → Bool, S s = true ∧ S t = false ∧ Closed S (Eds l) ∧ ∀ v, S v = true → Reach (Eds l) s v) := by
  have h8 := hn.n8
  have h2 := hn.n2
  have hlen : (Eds l).length ≤ 16 := by
    have := congrArg List.length h.drains
    have h3 := hn.len
    unfold Eds; simp at this ⊢; omega
  rcases search_spec (K := FU) h.flow.dom (caps_room h.caps) (by omega) (show 0 ≤ s ∧ s < ((n.nodes.toNat : Nat) : Int) by omega) hst (flowL_ne hn h) (by have := FU_pos; omega) with ⟨ks, k1, k2, k3⟩ | ⟨S, k1, k2, k3, k4, k5⟩
  · refine .inl ⟨ks, k1, ?_, ?_, k3⟩
    · have ⟨q1, q2⟩ := sp_len ks [] s t k3
      have := nodup_len _ ks q1 q2
      omega
    · unfold drain_search
      have k2' : dfs (l.map toEd) t FU s [] [] = some (.inr (ints ks)) := k2
      rw [gd_pos hst, k2']
      exact gd_pos (by unfold ints; simpa using k1)
  · refine .inr ⟨?_, sees S, k2, k3, k4, k5⟩
    unfold drain_search
    have k1' : dfs (l.map toEd) t FU s [] [] = some (.inl S) := k1
    rw [gd_pos hst, k1']
def Maxed (n : Net) (l : List Left) : Prop := FlowL n l ∧ ∃ S : Int → Bool, S n.from_ = true ∧ S n.to_ = false ∧ Closed S (Eds l) ∧ ∀ v, S v = true → Reach (Eds l) n.from_ v
theorem run_L3 {n : Net} (hn : Net0 n) : ∀ (q : Nat) (l : List Left) (k : Nat), FlowL n l → cutW (fun v => decide (v = n.from_)) (Eds l) - out (Eds l) n.from_ ≤ q → q < k → ∃ l', drain_run_L3 n k l = some l' ∧ Maxed n l' := by
  intro q
  induction q with
  | zero =>
    intro l k h hq hk
    obtain ⟨k, rfl⟩ : ∃ k', k = k' + 1 := ⟨k - 1, by omega⟩
    rcases search_eq hn h (s := n.from_) (t := n.to_) hn.s0 hn.ne with ⟨ks, k1, k2, k3, k4⟩ | ⟨k1, S, k2⟩
    · exfalso
      obtain ⟨m1, _, m3⟩ := minRoom_spec ks [] n.from_ n.to_ (-1) k4 (.inr ⟨by omega, k1⟩)
      obtain ⟨f1, f2, f3⟩ := aug_flow h.flow (Int.le_of_lt m1) hn.ne k4 m3
      have hw := weak f1 (show 0 ≤ n.from_ ∧ n.from_ < ((n.nodes.toNat : Nat) : Int) by have := hn.s0; omega) (S := fun v => decide (v = n.from_)) (by simp) (by have := hn.ne; simp; omega)
      rw [f2, alike_cut _ f3] at hw
      omega
    · refine ⟨l, ?_, h, S, k2⟩
      show drain_run_B3 n (drain_run_L3 n k) l = _
      unfold drain_run_B3
      rw [bnd_eq k1, if_pos rfl]
  | succ q ih =>
    intro l k h hq hk
    obtain ⟨k, rfl⟩ : ∃ k', k = k' + 1 := ⟨k - 1, by omega⟩
    rcases search_eq hn h (s := n.from_) (t := n.to_) hn.s0 hn.ne with ⟨ks, k1, k2, k3, k4⟩ | ⟨k1, S, k2⟩
    · obtain ⟨m1, _, m3⟩ := minRoom_spec ks [] n.from_ n.to_ (-1) k4 (.inr ⟨by omega, k1⟩)
      obtain ⟨f1, f2, f3⟩ := aug_flow h.flow (Int.le_of_lt m1) hn.ne k4 m3
      have hm1000 : minRoom (Eds l) n.from_ (-1) ks ≤ 1000 := by
        cases ks with
        | nil => exact absurd rfl k1
        | cons i r =>
          obtain ⟨e, he, hmr, _⟩ := m3
          obtain ⟨d, hd, rfl⟩ := eds_at he
          have := h.caps d (List.mem_of_getElem? hd)
          have : room (toEd d) n.from_ ≤ 1000 := by
            unfold room; split
            · show d.drain.width - d.runs ≤ 1000; omega
            · show d.runs ≤ 1000; omega
          omega
      have hcaps : Caps (augL (minRoom (Eds l) n.from_ (-1) ks) l n.from_ ks) := fun d hd => by
        have he : toEd d ∈ aug (minRoom (Eds l) n.from_ (-1) ks) (Eds l) n.from_ ks := by rw [← augL_ed]; exact List.mem_map_of_mem hd
        have hc := f1.cap _ he
        have hdm : d.drain ∈ n.drains := by rw [← h.drains, ← augL_drains (m := minRoom (Eds l) n.from_ (-1) ks) ks l n.from_]; exact List.mem_map_of_mem hd
        have := hn.dr _ hdm
        exact ⟨hc.1, hc.2, this.2.2.2.2⟩
      have hf' : FlowL n (augL (minRoom (Eds l) n.from_ (-1) ks) l n.from_ ks) := ⟨by rw [augL_drains]; exact h.drains, by rw [augL_ed]; exact f1, hcaps⟩
      obtain ⟨l', l1, l2⟩ := ih (augL (minRoom (Eds l) n.from_ (-1) ks) l n.from_ ks) k hf' (by rw [augL_ed, f2, alike_cut _ f3]; omega) (by omega)
      refine ⟨l', ?_, l2⟩
      rw [← l1]
      show drain_run_B3 n (drain_run_L3 n k) l = _
      unfold drain_run_B3
      rw [bnd_eq k3, if_neg (by unfold ints; simpa using k1)]
      have e1 := run_L2 (n := n) h.caps (drain_run_L3 n k) k2 ks [] [] n.from_ n.to_ (-1) FU rfl k4 (by have := FU_pos; omega)
      have e2 := run_L1 (drain_run_L3 n k) k2 (m := minRoom (Eds l) n.from_ (-1) ks) ⟨by omega, hm1000⟩ ks [] [] n.from_ n.to_ l FU rfl h.caps k4 m3 (by have := FU_pos; omega)
      refine Eq.trans e1 ?_
      unfold drain_run_k2
      exact e2
    · refine ⟨l, ?_, h, S, k2⟩
      show drain_run_B3 n (drain_run_L3 n k) l = _
      unfold drain_run_B3
      rw [bnd_eq k1, if_pos rfl]
def start (n : Net) : List Left := n.drains.map fun d => ⟨d, 0⟩
theorem out_zero (v : Int) : ∀ l : List Drain, out (Eds (l.map fun d => ⟨d, 0⟩)) v = 0
  | [] => rfl
  | d :: r => by
    have := out_zero v r
    unfold Eds at this ⊢
    simp only [List.map_cons, out, this]
    show ((if d.from_ = v then (0 : Int) else 0) - (if d.to_ = v then 0 else 0)) + 0 = 0
    split <;> split <;> rfl
theorem start_flow {n : Net} (hn : Net0 n) : FlowL n (start n) := by
  have h2 := hn.n2
  refine ⟨by unfold start; rw [List.map_map]; exact List.map_id _, ⟨fun e he => ?_, fun e he => ?_, fun v _ _ _ _ => out_zero v _⟩, fun d hd => ?_⟩
  · obtain ⟨x, hx, rfl⟩ := List.mem_map.1 he
    obtain ⟨d, hd, rfl⟩ := List.mem_map.1 hx
    have := hn.dr d hd
    refine ⟨⟨this.1.1, ?_⟩, this.2.1.1, ?_⟩
    · show d.from_ < _; omega
    · show d.to_ < _; omega
  · obtain ⟨x, hx, rfl⟩ := List.mem_map.1 he
    obtain ⟨d, hd, rfl⟩ := List.mem_map.1 hx
    have := hn.dr d hd
    exact ⟨Int.le_refl _, this.2.2.2.1⟩
  · obtain ⟨x, hx, rfl⟩ := List.mem_map.1 hd
    have := hn.dr x hx
    exact ⟨Int.le_refl _, this.2.2.2.1, this.2.2.2.2⟩
theorem cut_bnd (S : Int → Bool) : ∀ (l : List Left), (∀ d ∈ l, 0 ≤ d.drain.width ∧ d.drain.width ≤ 1000) → 0 ≤ cutW S (Eds l) ∧ cutW S (Eds l) ≤ 1000 * (l.length : Int)
  | [], _ => ⟨Int.le_refl _, Int.le_refl _⟩
  | d :: r, h => by
    have ih := cut_bnd S r (fun x hx => h x (List.mem_cons_of_mem _ hx))
    have := h d (List.mem_cons_self ..)
    have e : cutW S (Eds (d :: r)) = (if S d.drain.from_ = true ∧ S d.drain.to_ = false then d.drain.width else 0) + cutW S (Eds r) := rfl
    rw [e, List.length_cons]
    split <;> omega
theorem run_eq {n : Net} (hn : Net0 n) : ∃ l, drain_run n = some l ∧ Maxed n l := by
  have hlen := hn.len
  have hf := start_flow hn
  have hb := cut_bnd (fun v => decide (v = n.from_)) (start n) (fun d hd => by have := hf.caps d hd; omega)
  have hsl : (start n).length = n.drains.length := by unfold start; simp
  obtain ⟨l, l1, l2⟩ := run_L3 hn 16000 (start n) FU hf (by unfold start; rw [out_zero]; have := hb.2; unfold start at this; simp only [List.length_map] at this; omega) (by have := FU_pos; omega)
  refine ⟨l, ?_, l2⟩
  unfold drain_run
  refine Eq.trans (for0 n.drains.length (fun i => (start n).take i) (fun k s i => drain_run_L4 n k i s) (some l) rfl (fun k i hi => ?_) (fun k => ?_) (by omega)) rfl
  · have hx : n.drains[i]? = some n.drains[i] := by simp [hi]
    have hs : (start n)[i]? = some ⟨n.drains[i], 0⟩ := by unfold start; rw [List.getElem?_map, hx]; rfl
    show drain_run_B4 n (drain_run_L4 n k) _ _ = _
    unfold drain_run_B4
    rw [if_pos (by omega), ix_nat hx, gd_pos (by simp; omega), gd_pos (by omega), List.take_add_one, hs]; rfl
  · show drain_run_B4 n (drain_run_L4 n k) _ _ = _
    unfold drain_run_B4
    rw [if_neg (by omega)]
    unfold drain_run_k5
    rw [List.take_of_length_le (by omega)]; exact l1
end Go.D2

set_option linter.unusedVariables false
set_option linter.unusedSimpArgs false
namespace Go.D2
open Go.Tb
def En (n : Net) (fl : List Int) : List Ed := List.zipWith (fun d f => (⟨d.from_, d.to_, d.width, f⟩ : Ed)) n.drains fl
theorem en_at {n : Net} {fl : List Int} {i : Nat} {d : Drain} {f : Int} (h1 : n.drains[i]? = some d) (h2 : fl[i]? = some f) : (En n fl)[i]? = some ⟨d.from_, d.to_, d.width, f⟩ := by
  unfold En
  rw [List.getElem?_zipWith, h1, h2]
theorem en_len {n : Net} {fl : List Int} (h : fl.length = n.drains.length) : (En n fl).length = n.drains.length := by unfold En; simp; omega
theorem eds_en : ∀ (l : List Left), Eds l = List.zipWith (fun d f => (⟨d.from_, d.to_, d.width, f⟩ : Ed)) (l.map Left.drain) (l.map Left.runs)
  | [] => rfl
  | d :: r => by
    have := eds_en r
    unfold Eds at this ⊢
    simp only [List.map_cons, List.zipWith_cons_cons, this]; rfl
theorem flowL_en {n : Net} {l : List Left} (h : l.map Left.drain = n.drains) : Eds l = En n (l.map Left.runs) := by
  rw [eds_en, h]; rfl
theorem flowOf_eq {l : List Left} (hl : l.length ≤ 1000) : drain_flowOf l = some (l.map Left.runs) := by
  unfold drain_flowOf
  refine Eq.trans (for0 l.length (fun i => (l.map Left.runs).take i) (fun n s i => drain_flowOf_L1 l n i s) (some (l.map Left.runs)) rfl (fun n i hi => ?_) (fun n => ?_) (by omega)) rfl
  · have hx : l[i]? = some l[i] := by simp [hi]
    have hs : (l.map Left.runs)[i]? = some l[i].runs := by rw [List.getElem?_map, hx]; rfl
    show drain_flowOf_B1 l (drain_flowOf_L1 l n) _ _ = _
    unfold drain_flowOf_B1
    rw [if_pos (by omega), ix_nat hx, gd_pos (by simp; omega), gd_pos (by omega), List.take_add_one, hs]; rfl
  · show drain_flowOf_B1 l (drain_flowOf_L1 l n) _ _ = _
    unfold drain_flowOf_B1
    rw [if_neg (by omega)]
    unfold drain_flowOf_k1
    rw [List.take_of_length_le (by simp)]
theorem out_take {e : Ed} (v : Int) : ∀ {E : List Ed} {i : Nat}, E[i]? = some e → out (E.take (i + 1)) v = out (E.take i) v + con1 e v
  | [], i, h => by simp at h
  | x :: r, 0, h => by simp at h; subst h; simp [out, con1]
  | x :: r, i + 1, h => by
    have := out_take (e := e) v (E := r) (i := i) (by simpa using h)
    simp only [List.take_succ_cons, out_cons, this]; omega
theorem out_bnd {M : Int} (hM : 0 ≤ M) (v : Int) : ∀ E : List Ed, (∀ e ∈ E, -M ≤ e.f ∧ e.f ≤ M) → -(2 * M) * (E.length : Int) ≤ out E v ∧ out E v ≤ 2 * M * (E.length : Int)
  | [], _ => by simp [out]
  | e :: r, h => by
    have ih := out_bnd hM v r (fun x hx => h x (List.mem_cons_of_mem _ hx))
    have he := h e (List.mem_cons_self ..)
    have e1 : ((List.length (e :: r) : Nat) : Int) = (r.length : Int) + 1 := by simp
    rw [out_cons, e1, Int.mul_add, Int.mul_add]
    have : -(2 * M) ≤ con1 e v ∧ con1 e v ≤ 2 * M := by
      unfold con1
      split <;> split <;> omega
    omega
def FBnd (fl : List Int) : Prop := ∀ x ∈ fl, -1000000 ≤ x ∧ x ≤ 1000000
theorem en_bnd {n : Net} {fl : List Int} (h : FBnd fl) : ∀ e ∈ En n fl, -1000000 ≤ e.f ∧ e.f ≤ 1000000 := fun e he => by
  obtain ⟨i, hi⟩ := List.getElem?_of_mem he
  unfold En at hi
  rw [List.getElem?_zipWith] at hi
  cases h1 : n.drains[i]? with
  | none => rw [h1] at hi; cases hi
  | some d =>
    cases h2 : fl[i]? with
    | none => rw [h1, h2] at hi; cases hi
    | some f =>
      rw [h1, h2] at hi; cases hi
      exact h f (List.mem_of_getElem? h2)
theorem part_bnd {n : Net} {fl : List Int} (h : FBnd fl) (hl : n.drains.length ≤ 1000) (v : Int) (i : Nat) : -2000000000 ≤ out ((En n fl).take i) v ∧ out ((En n fl).take i) v ≤ 2000000000 := by
  have := out_bnd (M := 1000000) (by omega) v ((En n fl).take i) (fun e he => en_bnd h e (List.mem_of_mem_take he))
  have h2 : ((En n fl).take i).length ≤ 1000 := by
    rw [List.length_take]
    have : (En n fl).length ≤ n.drains.length := by unfold En; simp; omega
    omega
  omega
theorem value_eq {n : Net} {fl : List Int} (hf : fl.length = n.drains.length) (hl : n.drains.length ≤ 1000) (hb : FBnd fl) (v : Int) : drain_value n fl v = some (out (En n fl) v) := by
  have hE := en_len hf
  unfold drain_value
  refine Eq.trans (for0 n.drains.length (fun i => out ((En n fl).take i) v) (fun k s i => drain_value_L1 n fl v k s i) (some (out (En n fl) v)) rfl (fun k i hi => ?_) (fun k => ?_) (by omega)) rfl
  · have hx : n.drains[i]? = some n.drains[i] := by simp [hi]
    have hy : fl[i]? = some (fl[i]'(by omega)) := List.getElem?_eq_getElem _
    have he := out_take v (en_at hx hy)
    have b1 := part_bnd hb hl v i
    have b2 := hb _ (List.mem_of_getElem? hy)
    show drain_value_B1 n fl v (drain_value_L1 n fl v k) _ _ = _
    unfold drain_value_B1 drain_value_k3 drain_value_k2
    rw [if_pos (by omega), ix_nat hx, he]
    unfold con1
    simp only
    by_cases h1 : n.drains[i].from_ = v
    · rw [if_pos h1, ix_nat hy, gd_pos (by omega), if_pos h1]
      by_cases h2 : n.drains[i].to_ = v
      · rw [if_pos h2, ix_nat hy, gd_pos (by omega), gd_pos (by omega), if_pos h2]
        congr 1; omega
      · rw [if_neg h2, gd_pos (by omega), if_neg h2]
        congr 1; omega
    · rw [if_neg h1, if_neg h1]
      by_cases h2 : n.drains[i].to_ = v
      · rw [if_pos h2, ix_nat hy, gd_pos (by omega), gd_pos (by omega), if_pos h2]
        congr 1; omega
      · rw [if_neg h2, gd_pos (by omega), if_neg h2]
        congr 1; omega
  · show drain_value_B1 n fl v (drain_value_L1 n fl v k) _ _ = _
    unfold drain_value_B1
    rw [if_neg (by omega)]
    unfold drain_value_k1
    rw [List.take_of_length_le (by omega)]
def inS (m : Nat) (v : Int) : Bool := m.testBit v.toNat
theorem set_of : ∀ (k : Nat) (S : Nat → Bool), ∃ m, m < 2 ^ k ∧ ∀ v, v < k → m.testBit v = S v
  | 0, S => ⟨0, by decide, fun v hv => by omega⟩
  | k + 1, S => by
    obtain ⟨m, h1, h2⟩ := set_of k (fun v => S (v + 1))
    refine ⟨2 * m + (S 0).toNat, ?_, fun v hv => ?_⟩
    · rw [Nat.pow_succ]
      have : (S 0).toNat ≤ 1 := Bool.toNat_le _
      omega
    · cases v with
      | zero =>
        rw [Nat.testBit_zero]
        cases S 0 <;> simp
      | succ v =>
        rw [Nat.testBit_succ]
        have : (2 * m + (S 0).toNat) / 2 = m := by
          have : (S 0).toNat ≤ 1 := Bool.toNat_le _
          omega
        rw [this]; exact h2 v (by omega)
def cutD (S : Int → Bool) : List Drain → Int
  | [] => 0
  | d :: r => (if S d.from_ = true ∧ S d.to_ = false then d.width else 0) + cutD S r
theorem cutW_eds (S : Int → Bool) : ∀ l : List Left, cutW S (Eds l) = cutD S (l.map Left.drain)
  | [] => rfl
  | d :: r => by
    have := cutW_eds S r
    have e : cutW S (Eds (d :: r)) = (if S d.drain.from_ = true ∧ S d.drain.to_ = false then d.drain.width else 0) + cutW S (Eds r) := rfl
    rw [e, this]; rfl
theorem cutD_congr {S T : Int → Bool} : ∀ l : List Drain, (∀ d ∈ l, S d.from_ = T d.from_ ∧ S d.to_ = T d.to_) → cutD S l = cutD T l
  | [], _ => rfl
  | d :: r, h => by
    have := h d (List.mem_cons_self ..)
    simp only [cutD, this.1, this.2, cutD_congr r (fun x hx => h x (List.mem_cons_of_mem _ hx))]
theorem cutD_bnd (S : Int → Bool) : ∀ l : List Drain, (∀ d ∈ l, 0 ≤ d.width ∧ d.width ≤ 1000) → 0 ≤ cutD S l ∧ cutD S l ≤ 1000 * (l.length : Int)
  | [], _ => ⟨Int.le_refl _, Int.le_refl _⟩
  | d :: r, h => by
    have ih := cutD_bnd S r (fun x hx => h x (List.mem_cons_of_mem _ hx))
    have := h d (List.mem_cons_self ..)
    simp only [cutD, List.length_cons]
    split <;> omega
def cutB (n : Net) (m : Nat) : Bool := inS m n.from_ && !inS m n.to_
def bestC (n : Net) : Nat → Int
  | 0 => -1
  | i + 1 => if cutB n i = true then (if bestC n i < 0 ∨ cutD (inS i) n.drains < bestC n i then cutD (inS i) n.drains else bestC n i) else bestC n i
theorem bestC_spec {n : Net} (hn : Net0 n) : ∀ i, ((∀ j, j < i → cutB n j = false) ∧ bestC n i = -1) ∨ (0 ≤ bestC n i ∧ (∀ j, j < i → cutB n j = true → bestC n i ≤ cutD (inS j) n.drains) ∧ ∃ j, j < i ∧ cutB n j = true ∧ cutD (inS j) n.drains = bestC n i)
  | 0 => .inl ⟨fun j hj => by omega, rfl⟩
  | i + 1 => by
    have ih := bestC_spec hn i
    have hb := (cutD_bnd (inS i) n.drains (fun d hd => by have := hn.dr d hd; omega)).1
    simp only [bestC]
    by_cases hc : cutB n i = true
    · rw [if_pos hc]
      refine .inr ?_
      rcases ih with ⟨h1, h2⟩ | ⟨h1, h2, j, h3, h4, h5⟩
      · rw [if_pos (.inl (by omega))]
        refine ⟨hb, fun j hj hcj => ?_, i, by omega, hc, rfl⟩
        by_cases hji : j = i
        · subst hji; exact Int.le_refl _
        · rw [h1 j (by omega)] at hcj; cases hcj
      · by_cases hlt : cutD (inS i) n.drains < bestC n i
        · rw [if_pos (.inr hlt)]
          refine ⟨hb, fun j hj hcj => ?_, i, by omega, hc, rfl⟩
          by_cases hji : j = i
          · subst hji; exact Int.le_refl _
          · have := h2 j (by omega) hcj; omega
        · rw [if_neg (by omega)]
          refine ⟨h1, fun j hj hcj => ?_, j, by omega, h4, h5⟩
          by_cases hji : j = i
          · subst hji; omega
          · exact h2 j (by omega) hcj
    · rw [if_neg hc]
      rcases ih with ⟨h1, h2⟩ | ⟨h1, h2, j, h3, h4, h5⟩
      · refine .inl ⟨fun j hj => ?_, h2⟩
        by_cases hji : j = i
        · subst hji; simpa using hc
        · exact h1 j (by omega)
      · refine .inr ⟨h1, fun j hj hcj => ?_, j, by omega, h4, h5⟩
        by_cases hji : j = i
        · subst hji; exact absurd hcj hc
        · exact h2 j (by omega) hcj
def mostN (n : Net) : Int := bestC n (2 ^ n.nodes.toNat)
/-- A set as a number, and its width. -/
theorem cut_num {n : Net} (hn : Net0 n) (S : Int → Bool) : ∃ m, m < 2 ^ n.nodes.toNat ∧ (∀ v : Int, 0 ≤ v → v < n.nodes → inS m v = S v) ∧ cutD (inS m) n.drains = cutD S n.drains := by
  obtain ⟨m, h1, h2⟩ := set_of n.nodes.toNat (fun v => S (v : Int))
  have key : ∀ v : Int, 0 ≤ v → v < n.nodes → inS m v = S v := fun v v0 v1 => by
    unfold inS
    rw [h2 v.toNat (by omega), show ((v.toNat : Nat) : Int) = v by omega]
  exact ⟨m, h1, key, cutD_congr _ fun d hd => by have := hn.dr d hd; exact ⟨key _ this.1.1 this.1.2, key _ this.2.1.1 this.2.1.2⟩⟩
theorem most_le {n : Net} (hn : Net0 n) {S : Int → Bool} (h1 : S n.from_ = true) (h2 : S n.to_ = false) : mostN n ≤ cutD S n.drains := by
  obtain ⟨m, m1, m2, m3⟩ := cut_num hn S
  have hc : cutB n m = true := by
    unfold cutB
    rw [m2 _ hn.s0.1 hn.s0.2, m2 _ hn.t0.1 hn.t0.2, h1, h2]; rfl
  rcases bestC_spec hn (2 ^ n.nodes.toNat) with ⟨h3, _⟩ | ⟨_, h3, _⟩
  · rw [h3 m m1] at hc; cases hc
  · have := h3 m m1 hc
    rw [m3] at this; exact this
theorem most_at {n : Net} (hn : Net0 n) : ∃ S : Int → Bool, S n.from_ = true ∧ S n.to_ = false ∧ cutD S n.drains = mostN n := by
  obtain ⟨m, m1, m2, m3⟩ := cut_num hn (fun v => decide (v = n.from_))
  have hne := hn.ne
  have hc : cutB n m = true := by
    unfold cutB
    rw [m2 _ hn.s0.1 hn.s0.2, m2 _ hn.t0.1 hn.t0.2]; simp; omega
  rcases bestC_spec hn (2 ^ n.nodes.toNat) with ⟨h3, _⟩ | ⟨_, _, j, j1, j2, j3⟩
  · rw [h3 m m1] at hc; cases hc
  · unfold cutB at j2
    simp only [Bool.and_eq_true, Bool.not_eq_true'] at j2
    exact ⟨inS j, j2.1, j2.2, j3⟩
theorem maxed_val {n : Net} (hn : Net0 n) {l : List Left} (h : Maxed n l) : out (Eds l) n.from_ = mostN n := by
  obtain ⟨hf, S, s1, s2, s3, _⟩ := h
  have hs : 0 ≤ n.from_ ∧ n.from_ < ((n.nodes.toNat : Nat) : Int) := by have := hn.s0; omega
  have h1 : out (Eds l) n.from_ = cutW S (Eds l) := (tight_iff hf.flow hs s1 s2).2 ((closed_tight hf.flow.cap).1 s3)
  rw [cutW_eds, hf.drains] at h1
  have h2 := most_le hn s1 s2
  obtain ⟨T, t1, t2, t3⟩ := most_at hn
  have h3 := weak hf.flow hs t1 t2
  rw [cutW_eds, hf.drains, t3] at h3
  omega
theorem maxed_bnd {n : Net} {l : List Left} (h : Maxed n l) : FBnd (l.map Left.runs) := fun x hx => by
  obtain ⟨d, hd, rfl⟩ := List.mem_map.1 hx
  have := h.1.caps d hd
  omega
theorem maxed_len {n : Net} {l : List Left} (h : Maxed n l) : l.length = n.drains.length := by
  have := congrArg List.length h.1.drains
  simpa using this
theorem most_eq {n : Net} (hn : Net0 n) : drain_most n = some (mostN n) := by
  obtain ⟨l, l1, l2⟩ := run_eq hn
  have hl := hn.len
  have hll := maxed_len l2
  unfold drain_most
  rw [bnd_eq l1, bnd_eq (flowOf_eq (by omega)), bnd_eq (value_eq (by simpa using hll) (by omega) (maxed_bnd l2) _), ← flowL_en l2.1.drains, maxed_val hn l2]
end Go.D2

set_option linter.unusedVariables false
set_option linter.unusedSimpArgs false
namespace Go.D2
open Go.Tb
def gd_ (l : List Drain) (i : Nat) : Drain := l.getD i ⟨0, 0, 0⟩
theorem gd_at {l : List Drain} {i : Nat} (h : i < l.length) : l[i]? = some (gd_ l i) := by simp [gd_, List.getD, h]
def mostR (n : Net) : Int × Int := if validate n = 0 then (mostN n, 0) else (0, validate n)
theorem Most_eq {n : Net} (hl : n.drains.length ≤ 1000) : drain_Most n = some (mostR n) := by
  unfold drain_Most mostR
  rw [bnd_eq (Validate_eq hl)]
  by_cases hv : validate n = 0
  · rw [if_pos hv, if_pos hv, bnd_eq (most_eq (val0.1 hv).toNet0)]
  · rw [if_neg hv, if_neg hv]
theorem Long_eq (n : Net) : law02_Long n = some (decide ((100 : Int) < (n.drains.length : Int))) := rfl
end Go.D2

set_option linter.unusedVariables false
set_option linter.unusedSimpArgs false
namespace Go.D2
open Go.Tb
def mem (l : List Int) (x : Int) : Bool := decide (x ∈ l)
end Go.D2

set_option linter.unusedVariables false
set_option linter.unusedSimpArgs false
namespace Go.D2
open Go.Tb
def nodesOf (n : Nat) (p : Int → Bool) : List Int := ((List.range n).map (fun (i : Nat) => (i : Int))).filter p
theorem nodesOf_len (n : Nat) (p : Int → Bool) : (nodesOf n p).length ≤ n := by
  unfold nodesOf
  refine Nat.le_trans (List.length_filter_le _ _) ?_
  simp
theorem nodesOf_succ (n : Nat) (p : Int → Bool) : nodesOf (n + 1) p = nodesOf n p ++ (if p (n : Int) = true then [(n : Int)] else []) := by
  unfold nodesOf
  rw [List.range_succ, List.map_append, List.filter_append]
  congr 1
  by_cases h : p (n : Int) = true
  · rw [if_pos h]; simp [h]
  · rw [if_neg h]; simp [h]
end Go.D2

set_option linter.unusedVariables false
set_option linter.unusedSimpArgs false
namespace Go.D2
open Go.Tb
theorem mem_nodesOf {k : Nat} {p : Int → Bool} {v : Int} (h : 0 ≤ v ∧ v < k) : mem (nodesOf k p) v = p v := by
  unfold mem nodesOf
  rw [Bool.eq_iff_iff, decide_eq_true_eq, List.mem_filter]
  constructor
  · exact fun h => h.2
  · intro hp
    refine ⟨List.mem_map.2 ⟨v.toNat, ?_, ?_⟩, hp⟩
    · rw [List.mem_range]; omega
    · omega
end Go.D2

set_option linter.unusedVariables false
set_option linter.unusedSimpArgs false
namespace Go.D2
open Go.Tb
theorem Same_self {n : Net} (hl : n.drains.length ≤ 1000000) : ref02_Same n n = some true := by
  unfold ref02_Same
  rw [if_pos rfl, if_pos rfl, if_pos rfl]
  unfold ref02_Same_k2
  rw [if_neg (by simp), list_loop0 n.drains (fun _ => true) (ref02_Same_L1 n n) (some true) (some false) (fun k i x hx => ?_) (fun k => ?_) (by omega)]
  · rw [if_pos (by simp)]
  · have := lt_of_at hx
    show ref02_Same_B1 n n (ref02_Same_L1 n n k) _ = _
    unfold ref02_Same_B1
    rw [if_pos (by omega), ix_nat hx, ix_nat hx, if_pos (by simp), gd_pos (by omega), if_pos rfl]; rfl
  · show ref02_Same_B1 n n (ref02_Same_L1 n n k) _ = _
    unfold ref02_Same_B1
    rw [if_neg (by omega)]; rfl
end Go.D2

set_option linter.unusedVariables false
set_option linter.unusedSimpArgs false
namespace Go.D2
open Go.Tb
def withW (d : Drain) (w : Int) : Drain := ⟨d.from_, d.to_, w⟩
def chg (n : Net) (i : Nat) (w : Int) : Net := ⟨n.nodes, n.from_, n.to_, n.drains.set i (withW (gd_ n.drains i) w)⟩
theorem changed_eq {n : Net} (hl : n.drains.length ≤ 1000) {i : Nat} (hi : i < n.drains.length) (w : Int) : drain_changed n i w = some (chg n i w) := by
  unfold drain_changed
  have h : slices_Clone_Drain n.drains = some n.drains := by
    unfold slices_Clone_Drain
    rw [gd_pos (by simp; omega)]; rfl
  rw [bnd_eq h, ix_nat (gd_at hi)]; rfl
theorem copy_eq {n : Net} (hl : n.drains.length ≤ 1000) : ref02_Copy n = some n := by
  unfold ref02_Copy
  rw [gd_pos (by simp; omega)]; rfl
theorem wide_eq {n : Net} (hl : n.drains.length ≤ 1000) {i : Nat} (hi : i < n.drains.length) (w : Int) : ref02_wide n i w = some (chg n i w) := by
  unfold ref02_wide
  rw [bnd_eq (copy_eq hl), ix_nat (gd_at hi)]; rfl
theorem chg_net0 {n : Net} (hn : Net0 n) {i : Nat} (hi : i < n.drains.length) {w : Int} (hw : 0 ≤ w ∧ w ≤ 1000) : Net0 (chg n i w) :=
  { n2 := hn.n2, n8 := hn.n8, s0 := hn.s0, t0 := hn.t0, ne := hn.ne, len := by show (n.drains.set i _).length ≤ 16; rw [List.length_set]; exact hn.len
    dr := fun d hd => by
      rcases List.mem_or_eq_of_mem_set hd with h | rfl
      · exact hn.dr d h
      · have := hn.dr _ (List.mem_of_getElem? (gd_at hi))
        exact ⟨this.1, this.2.1, this.2.2.1, hw⟩ }
theorem chg_ok {n : Net} (hn : NetOk n) {i : Nat} (hi : i < n.drains.length) {w : Int} (hw : 0 ≤ w ∧ w ≤ 20) : NetOk (chg n i w) :=
  { toNet0 := chg_net0 hn.toNet0 hi (by omega)
    w20 := fun d hd => by
      rcases List.mem_or_eq_of_mem_set hd with h | rfl
      · exact hn.w20 d h
      · exact hw.2 }
theorem cutD_set {S : Int → Bool} {d : Drain} {w : Int} : ∀ {l : List Drain} {i : Nat}, l[i]? = some d → cutD S (l.set i (withW d w)) = cutD S l + (if S d.from_ = true ∧ S d.to_ = false then w - d.width else 0)
  | [], i, h => by simp at h
  | x :: r, 0, h => by
    simp at h; subst h
    simp only [List.set_cons_zero, cutD, withW]
    split <;> omega
  | x :: r, i + 1, h => by
    have := cutD_set (S := S) (d := d) (w := w) (l := r) (i := i) (by simpa using h)
    simp only [List.set_cons_succ, cutD, this]; omega
theorem cutD_chg {n : Net} {S : Int → Bool} {i : Nat} (hi : i < n.drains.length) (w : Int) : cutD S (chg n i w).drains = cutD S n.drains + (if S (gd_ n.drains i).from_ = true ∧ S (gd_ n.drains i).to_ = false then w - (gd_ n.drains i).width else 0) := cutD_set (gd_at hi)
theorem most_chg {n : Net} (hn : Net0 n) {i : Nat} (hi : i < n.drains.length) {w : Int} (hw : 0 ≤ w ∧ w ≤ 1000) :
    mostN (chg n i w) ≤ mostN n + max (w - (gd_ n.drains i).width) 0 ∧ mostN n + min (w - (gd_ n.drains i).width) 0 ≤ mostN (chg n i w) := by
  have hc := chg_net0 hn hi hw
  constructor
  · obtain ⟨T, t1, t2, t3⟩ := most_at hn
    have h := most_le hc (S := T) t1 t2
    rw [cutD_chg hi] at h
    split at h <;> omega
  · obtain ⟨T, t1, t2, t3⟩ := most_at hc
    have h := most_le hn (S := T) t1 t2
    rw [cutD_chg hi] at t3
    split at t3 <;> omega
theorem those_eq {n : Net} (hl : n.drains.length ≤ 1000) {f : Int → Option Bool} {p : Int → Bool} (hf : ∀ i : Nat, i < n.drains.length → f (i : Int) = some (p i)) : drain_those n f = some (nodesOf n.drains.length p) := by
  unfold drain_those
  refine for0 n.drains.length (fun i => nodesOf i p) (fun k s i => drain_those_L1 n f k i s) _ rfl (fun k i hi => ?_) (fun k => ?_) (by omega)
  · have hll := nodesOf_len i p
    show drain_those_B1 n f (drain_those_L1 n f k) _ _ = _
    unfold drain_those_B1 drain_those_k2
    rw [if_pos (by omega), bnd_eq (hf _ hi), nodesOf_succ]
    by_cases h : p (i : Int) = true
    · rw [if_pos h, if_pos h, gd_pos (by simp; omega), gd_pos (by omega)]; rfl
    · rw [if_neg h, if_neg h, gd_pos (by omega), List.append_nil]; rfl
  · show drain_those_B1 n f (drain_those_L1 n f k) _ _ = _
    unfold drain_those_B1
    rw [if_neg (by omega)]; rfl
def wantP (n : Net) (v : Int) : Bool := decide (mostN n < mostN (chg n v.toNat ((gd_ n.drains v.toNat).width + 1)))
def listR (n : Net) (p : Int → Bool) : List Int × Int := if validate n = 0 then (nodesOf n.drains.length p, 0) else ([], validate n)
theorem Wanted_eq {n : Net} (hl : n.drains.length ≤ 1000) : drain_Wanted n = some (listR n (wantP n)) := by
  unfold drain_Wanted listR
  rw [bnd_eq (Validate_eq hl)]
  by_cases hv : validate n = 0
  · have hn := val0.1 hv
    rw [if_pos hv, if_pos hv, bnd_eq (most_eq hn.toNet0), bnd_eq (those_eq hl (p := wantP n) fun i hi => ?_)]
    have hd := hn.dr _ (List.mem_of_getElem? (gd_at hi))
    unfold drain_Wanted_1 wantP
    rw [ix_nat (gd_at hi), gd_pos (by omega), bnd_eq (changed_eq hl hi _), bnd_eq (most_eq (chg_net0 hn.toNet0 hi (by have := hn.w20 _ (List.mem_of_getElem? (gd_at hi)); omega)))]; rfl
  · rw [if_neg hv, if_neg hv]
def widenR (n : Net) (i by_ : Int) : Net × Int :=
  if validate n = 0 then (if within i 0 ((n.drains.length : Int) - 1) = true then (if within by_ (-20) 20 = true ∧ within ((gd_ n.drains i.toNat).width + by_) 0 20 = true then (chg n i.toNat ((gd_ n.drains i.toNat).width + by_), 0) else (⟨0, 0, 0, []⟩, 1)) else (⟨0, 0, 0, []⟩, 4)) else (⟨0, 0, 0, []⟩, validate n)
theorem Widen_eq {n : Net} (hl : n.drains.length ≤ 1000) (i by_ : Int) : drain_Widen n i by_ = some (widenR n i by_) := by
  unfold drain_Widen widenR
  rw [bnd_eq (Validate_eq hl)]
  by_cases hv : validate n = 0
  · have hn := val0.1 hv
    rw [if_pos hv, if_pos hv, gd_pos (by omega), bnd_eq (from_eq _ _ _)]
    by_cases h1 : within i 0 ((n.drains.length : Int) - 1) = true
    · have hi := within_iff.1 h1
      have hlt : i.toNat < n.drains.length := by omega
      have hx : n.drains[i.toNat]? = some (gd_ n.drains i.toNat) := gd_at hlt
      have hd := hn.dr _ (List.mem_of_getElem? hx)
      rw [if_pos h1, if_pos h1, bnd_eq (from_eq _ _ _)]
      unfold drain_Widen_k1
      by_cases h2 : within by_ (-20) 20 = true
      · have hb := within_iff.1 h2
        rw [if_pos h2, ix_eq hi.1 hx, gd_pos (by omega), bnd_eq (from_eq _ _ _)]
        by_cases h3 : within ((gd_ n.drains i.toNat).width + by_) 0 20 = true
        · rw [if_neg (by rw [h3]; simp), ix_eq hi.1 hx, gd_pos (by omega), if_pos ⟨h2, h3⟩]
          have := changed_eq hl hlt ((gd_ n.drains i.toNat).width + by_)
          rw [show ((i.toNat : Nat) : Int) = i by omega] at this
          rw [bnd_eq this]
        · rw [if_pos (by simpa using h3), if_neg (fun h => h3 h.2)]
      · rw [if_neg h2, if_pos rfl, if_neg (fun h => h2 h.1)]
    · rw [if_neg h1, if_neg h1]
  · rw [if_neg hv, if_neg hv]
theorem rWiden_eq {n : Net} (hl : n.drains.length ≤ 1000) (i by_ : Int) : ref02_Widen n i by_ = some (widenR n i by_) := by
  unfold ref02_Widen widenR
  rw [bnd_eq (rValidate_eq hl)]
  by_cases hv : validate n = 0
  · have hn := val0.1 hv
    rw [if_pos hv, if_pos hv, gd_pos (by omega), bnd_eq (within_eq _ _ _)]
    by_cases h1 : within i 0 ((n.drains.length : Int) - 1) = true
    · have hi := within_iff.1 h1
      have hlt : i.toNat < n.drains.length := by omega
      have hx : n.drains[i.toNat]? = some (gd_ n.drains i.toNat) := gd_at hlt
      have hd := hn.dr _ (List.mem_of_getElem? hx)
      rw [if_pos h1, if_pos h1, bnd_eq (within_eq _ _ _)]
      unfold ref02_Widen_k1
      by_cases h2 : within by_ (-20) 20 = true
      · have hb := within_iff.1 h2
        rw [if_pos h2, ix_eq hi.1 hx, gd_pos (by omega), bnd_eq (within_eq _ _ _)]
        by_cases h3 : within ((gd_ n.drains i.toNat).width + by_) 0 20 = true
        · rw [if_neg (by rw [h3]; simp), ix_eq hi.1 hx, gd_pos (by omega), if_pos ⟨h2, h3⟩]
          have := wide_eq hl hlt ((gd_ n.drains i.toNat).width + by_)
          rw [show ((i.toNat : Nat) : Int) = i by omega] at this
          rw [bnd_eq this]
        · rw [if_pos (by simpa using h3), if_neg (fun h => h3 h.2)]
      · rw [if_neg h2, if_pos rfl, if_neg (fun h => h2 h.1)]
    · rw [if_neg h1, if_neg h1]
  · rw [if_neg hv, if_neg hv]
theorem has_eq {l : List Int} (x : Int) (hl : l.length ≤ 1000) : law02_has l x = some (mem l x) := by
  unfold law02_has
  have h := list_loop0 l (fun y => !decide (y = x)) (law02_has_L1 l x) (some false) (some true) (fun k i y hy => ?_) (fun k => ?_) (by omega)
  · refine Eq.trans h ?_
    unfold mem
    by_cases hm : x ∈ l
    · rw [decide_eq_true hm, if_neg]
      intro hc
      have := List.all_eq_true.1 hc x hm
      simp at this
    · rw [decide_eq_false hm, if_pos]
      refine List.all_eq_true.2 fun y hy => ?_
      simp only [Bool.not_eq_true', decide_eq_false_iff_not]
      intro e; subst e; exact hm hy
  · have := lt_of_at hy
    show law02_has_B1 l x (law02_has_L1 l x k) _ = _
    unfold law02_has_B1
    rw [if_pos (by omega), ix_nat hy]
    by_cases h : y = x
    · rw [if_pos h, if_neg (by simp [h])]
    · rw [if_neg h, gd_pos (by omega), if_pos (by simp [h])]; rfl
  · show law02_has_B1 l x (law02_has_L1 l x k) _ = _
    unfold law02_has_B1
    rw [if_neg (by omega)]; rfl
theorem widens_end {n m : Net} (hl : n.drains.length ≤ 1000) : ∀ (q : Nat) (l : List Drain) (i k : Nat), l.length = i + q → l.length ≤ 1000 → q < k → law02_DrainWidens_L1 m n k (i : Int) l = law02_DrainWidens_k1 m n
  | 0, l, i, k + 1, h, hl, hk => by
    show law02_DrainWidens_B1 m n (law02_DrainWidens_L1 m n k) _ _ = _
    unfold law02_DrainWidens_B1
    rw [if_neg (by omega)]
  | q + 1, l, i, k + 1, h, hl2, hk => by
    have hx : l[i]? = some (gd_ l i) := gd_at (by omega)
    show law02_DrainWidens_B1 m n (law02_DrainWidens_L1 m n k) _ _ = _
    unfold law02_DrainWidens_B1
    rw [if_pos (by omega), ix_nat hx, gd_pos (by omega)]
    exact widens_end hl q _ (i + 1) k (by rw [List.length_set]; omega) (by rw [List.length_set]; omega) (by omega)
theorem law_DrainWidens (n : Net) (i by_ : Int) (hb : n.drains.length ≤ 9223372036854775807) : law02_DrainWidens n i by_ = some true := by
  unfold law02_DrainWidens
  rw [bnd_eq (Long_eq n)]
  by_cases hL : (100 : Int) < (n.drains.length : Int)
  · rw [if_pos (by simpa using hL), bnd_eq known_eq]
  · have hl : n.drains.length ≤ 1000 := by omega
    have hwl : (widenR n i by_).1.drains.length ≤ 1000 := by
      unfold widenR
      split
      · split
        · split
          · show (n.drains.set _ _).length ≤ 1000
            rw [List.length_set]; exact hl
          · exact Nat.zero_le _
        · exact Nat.zero_le _
      · exact Nat.zero_le _
    have fin : law02_DrainWidens_k2 n n (widenR n i by_) = some true := by
      unfold law02_DrainWidens_k2
      have := widens_end (m := n) hl (widenR n i by_).1.drains.length (widenR n i by_).1.drains 0 FU (by omega) hwl (by have := FU_pos; omega)
      refine Eq.trans this ?_
      unfold law02_DrainWidens_k1
      rw [bnd_eq (Same_self (by omega)), if_pos rfl, bnd_eq known_eq]
    rw [if_neg (by simpa using hL), bnd_eq (copy_eq hl), bnd_eq (Widen_eq hl _ _), bnd_eq (rWiden_eq hl _ _), bnd_eq (Same_self (by omega)), if_pos rfl]
    unfold law02_DrainWidens_k5
    rw [if_neg (by simp)]
    by_cases h0 : (widenR n i by_).2 = 0
    · have hq := h0
      unfold widenR at hq
      split at hq
      · rename_i hv
        have hn := val0.1 hv
        split at hq
        · rename_i hi
          split at hq
          · rename_i hw
            have hi' := within_iff.1 hi
            have hw2 := within_iff.1 hw.2
            have hlt : i.toNat < n.drains.length := by omega
            have e : widenR n i by_ = (chg n i.toNat ((gd_ n.drains i.toNat).width + by_), 0) := by
              unfold widenR
              rw [if_pos hv, if_pos hi, if_pos hw]
            have hk := chg_ok hn hlt hw2
            have hm := most_chg hn.toNet0 hlt (w := (gd_ n.drains i.toNat).width + by_) (by omega)
            have e1 : mostR n = (mostN n, 0) := if_pos hv
            have e2 : mostR (chg n i.toNat ((gd_ n.drains i.toNat).width + by_)) = (mostN (chg n i.toNat ((gd_ n.drains i.toNat).width + by_)), 0) := if_pos (val0.2 hk)
            have e3 : listR n (wantP n) = (nodesOf n.drains.length (wantP n), 0) := if_pos hv
            have hbm := cutD_bnd (fun v => decide (v = n.from_)) n.drains (fun d hd => by have := hn.dr d hd; omega)
            have hne := hn.ne
            have hmb : mostN n ≤ 1000 * (n.drains.length : Int) := Int.le_trans (most_le hn.toNet0 (S := fun v => decide (v = n.from_)) (by simp) (by simp; omega)) hbm.2
            have hm0 : 0 ≤ mostN n := by
              obtain ⟨T, _, _, t3⟩ := most_at hn.toNet0
              rw [← t3]
              exact (cutD_bnd T n.drains (fun d hd => by have := hn.dr d hd; omega)).1
            have hby := within_iff.1 hw.1
            rw [e] at fin hwl ⊢
            rw [if_pos rfl, bnd_eq (Most_eq hl), bnd_eq (Most_eq hwl), bnd_eq (Wanted_eq hl), e1, e2, e3, if_pos rfl, if_pos rfl, if_pos rfl]
            rw [show (gd_ n.drains i.toNat).width + by_ - (gd_ n.drains i.toNat).width = by_ by omega] at hm
            rw [gd_pos (by simp only; omega), if_neg (by simp only; omega), gd_pos (by simp only; omega)]
            unfold law02_DrainWidens_k4
            rw [if_neg (by simp only [decide_eq_true_eq]; omega)]
            by_cases h1 : by_ = 1
            · subst h1
              have hml := nodesOf_len n.drains.length (wantP n)
              rw [if_pos rfl, bnd_eq (has_eq _ (by simp only; omega))]
              have em : mem (nodesOf n.drains.length (wantP n)) i = wantP n i := mem_nodesOf (by omega)
              simp only [em]
              unfold law02_DrainWidens_k3
              rw [if_neg]
              · exact fin
              · unfold wantP
                simp
            · rw [if_neg h1]
              unfold law02_DrainWidens_k3
              rw [if_neg (by simp)]
              exact fin
          · cases hq
        · cases hq
      · rename_i hv; exact absurd hq hv
    · rw [if_neg h0]; exact fin
end Go.D2
