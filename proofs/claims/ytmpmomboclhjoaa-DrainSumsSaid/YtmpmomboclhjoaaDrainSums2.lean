/- Lemmas and walks that the proof of this claim uses: D2m3, D2m4, D2m5, D2m6, D2m10, D2n1. -/
import Derived.Test.YtmpmomboclhjoaaDrainSums1
set_option linter.unusedVariables false
set_option linter.unusedSimpArgs false
namespace Go.D2
open Go.Tb Go.Proofs Go.RowKit
theorem Tc26 : callable Try.prog 26 = true := by kernel_rfl
theorem Tc56 : callable Try.prog 56 = true := by kernel_rfl
theorem Tc58 : callable Try.prog 58 = true := by kernel_rfl
theorem Tc59 : callable Try.prog 59 = true := by kernel_rfl
theorem Tc63 : callable Try.prog 63 = true := by kernel_rfl
theorem Tc65 : callable Try.prog 65 = true := by kernel_rfl
theorem Tc66 : callable Try.prog 66 = true := by kernel_rfl
theorem Tc91 : callable Try.prog 91 = true := by kernel_rfl
theorem Tz87 : tyZ Try.prog 87 = some (.agg #[.int .i64 0, .int .i64 0, .int .i64 0, .int .i64 0]) := by kernel_rfl
set_option maxRecDepth 20000 in
set_option maxHeartbeats 1000000 in
theorem drain_flowOf_ok {a0 : List Left} {A_a0 : Option Addr} {c_a0 : Nat} {w : World} {res : (List Int)} (h_a0 : Sl w A_a0 c_a0 4 (a0.map encLeft)) (F : drain_flowOf a0 = some res) : Calls Try.prog 58 #[.slice A_a0 a0.length c_a0] w (fun e w' => ∃ (A1 : Option Addr) (c1 : Nat), e = .returned (.slice A1 res.length c1) ∧ Hp w w' [.own A1 c1 3 1 (List.map encN res)]) := by
  refine calls_of_cw (args := [.slice A_a0 a0.length c_a0]) Try.func58 rfl rfl rfl rfl ?_
  have H := Hp.start w
  have R0 := H.ext
  unfold drain_flowOf at F
  refine CW.seq fun K1 hK1 => ?_
  refine CW.region ?_
  refine LW.pure rfl rfl (RV.assign rfl) ?_
  refine LW.nil (hK1 _ _ ?_)
  refine CW.seq fun K2 hK2 => ?_
  refine CW.region ?_
  refine LW.pure rfl rfl (RV.assign rfl) ?_
  refine LW.nil (hK2 _ _ ?_)
  refine CW.seqJ (fun ρ wl1 => (∃ (l1 : List Int) (Al1 : Option Addr) (cl1 : Nat), drain_flowOf_k1 l1 = some res ∧ ρ = [(2, .slice none 0 0), (3, .slice Al1 l1.length cl1)] ∧ Hp w wl1 [.own Al1 cl1 3 1 (List.map encN l1)])) ?_ ?_
  ·
    rintro _ wl1 ⟨l1, Al1, cl1, F, rfl, H⟩
    have R0 := H.ext
    unfold drain_flowOf_k1 at F
    refine CW.seq fun K3 hK3 => ?_
    refine CW.region ?_
    refine LW.pure rfl rfl (RV.move rfl) ?_
    refine LW.pure rfl rfl (RV.assign rfl) ?_
    refine LW.nil (hK3 _ _ ?_)
    refine CW.ret ?_
    obtain rfl := Option.some.inj F
    refine ⟨_, (ResOK.one rfl), ?_⟩
    exact ⟨Al1, cl1, (by first | rfl | (simp; done) | (simp; omega)), H⟩
  ·
    intro K4 hK4 jK47
    refine CW.seq fun K5 hK5 => ?_
    refine CW.region ?_
    refine LW.pure rfl rfl (RV.move rfl) ?_
    refine LW.pure rfl rfl (RV.len Ts63 rfl) ?_
    refine LW.pure rfl rfl (RV.move rfl) ?_
    refine LW.nil (hK5 _ _ ?_)
    refine CW.block ?_
    replace H := H.nilOwn 3 1
    replace R0 := H.ext
    refine CW.loop (fun meas ρ wl2 => ∃ (t8_1 : Int) (l2 : List Int) (Al2 : Option Addr) (cl2 : Nat), drain_flowOf_L1 a0 meas t8_1 l2 = some res ∧ ρ = [(2, .slice none 0 0), (3, .slice Al2 l2.length cl2), (6, .slice A_a0 a0.length c_a0), (7, .int .i64 ((a0.length : Int))), (8, .int .i64 t8_1)] ∧ Hp w wl2 [.own Al2 cl2 3 1 (List.map encN l2)]) FU ⟨_, ?_, ((0 : Int)), (([] : List Int)), none, 0, F, rfl, H⟩ ?_
    · exact ⟨rfl, (look_slice rfl (by first | rfl | (simp; done) | (simp; omega))), rfl, rfl, rfl, trivial⟩
    rintro mk1 _ wl2 ⟨t8_1, l2, Al2, cl2, F, rfl, H⟩
    have R0 := H.ext
    replace F := drain_flowOf_L1_s F
    obtain ⟨mk1, rfl, F⟩ := F
    generalize hrec1 : drain_flowOf_L1 a0 mk1 = rec1 at F
    unfold drain_flowOf_B1 at F
    refine CW.seq fun K6 hK6 => ?_
    refine CW.region ?_
    refine LW.pure rfl rfl (RV.lss rfl rfl) ?_
    refine LW.nil (hK6 _ _ ?_)
    refine CW.seq fun K7 hK7 => ?_
    by_cases hp1 : t8_1 < ((a0.length : Int))
    ·
      replace F := ite_y hp1 F
      have hq1 := dec_t hp1
      refine CW.condT rfl hq1 ?_
      refine CW.skip (hK7 _ _ ?_)
      refine CW.seq fun K8 hK8 => ?_
      refine CW.block ?_
      refine CW.seq fun K9 hK9 => ?_
      obtain ⟨x1, hbx1, hx1, F⟩ := ix_some F
      refine CW.region ?_
      refine LW.pure rfl rfl (RV.indexAddr Ts63 rfl rfl hbx1 (h_a0.addr_ hx1)) ?_
      refine LW.pure rfl rfl (RV.loadA [.int .i64 x1.drain.from_, .int .i64 x1.drain.to_, .int .i64 x1.drain.width, .int .i64 x1.runs] Tk87 rfl ((h_a0.at_ hx1).ext R0) rfl rfl) ?_
      refine LW.go rfl rfl (OW.alloc Tz87 fun b1 w1 N1 => ?_)
      replace H := H.new N1 N1.blk
      replace R0 := H.ext
      refine LW.go rfl rfl (OW.store Tk87 rfl rfl (H.blk 0 rfl) (off := 0) (vs := [.int .i64 x1.drain.from_, .int .i64 x1.drain.to_, .int .i64 x1.drain.width, .int .i64 x1.runs]) rfl rfl rfl rfl rfl fun w2 S1 => ?_)
      replace H : Hp w w2 [.blk b1 87 [.int .i64 x1.drain.from_, .int .i64 x1.drain.to_, .int .i64 x1.drain.width, .int .i64 x1.runs], .own Al2 cl2 3 1 (List.map encN l2)] := H.stored 0 rfl S1
      replace R0 := H.ext
      refine LW.nil (hK9 _ _ ?_)
      obtain ⟨hg1, F⟩ := gd_some F
      refine CW.region ?_
      refine LW.pure rfl rfl (RV.move rfl) ?_
      refine LW.pure rfl rfl (RV.fieldAddr Tf87_1 rfl) ?_
      refine LW.pure rfl rfl (RV.load1 Tk3 rfl ((H.blk 0 rfl).cells.off 3) rfl) ?_
      refine LW.go rfl rfl (OW.buildSlice (e := 3) (vs := [.int .i64 x1.runs]) (cs := [.int .i64 x1.runs]) rfl (fun _ => by kernel_rfl) fun b2 w3 N2 => ?_)
      replace H := H.made' (k := 1) (t := 3) (enc := encN) (l := ([x1.runs] : List Int)) N2 N2.blk (fun _ => rfl) rfl (by first | decide | omega | (simp; done) | (simp; omega))
      replace R0 := H.ext
      refine LW.go rfl rfl (OW.appendG (enc := encN) (l := l2) (xs := ([x1.runs] : List Int)) Ts30 rfl (look_slice rfl (by first | rfl | (simp; done) | (simp; omega))) (H.own 2 rfl) (H.own 0 rfl).sl (fun _ => rfl) rfl rfl hg1 (by decide) fun A2 c2 w4 O1 M1 D1 => ?_)
      replace H : Hp w w4 [.own (some ⟨b2, 0, none⟩) ((([x1.runs] : List Int)).length) 3 1 (List.map encN (([x1.runs] : List Int))), .blk b1 87 [.int .i64 x1.drain.from_, .int .i64 x1.drain.to_, .int .i64 x1.drain.width, .int .i64 x1.runs], .own A2 c2 3 1 (List.map encN ((l2 ++ ([x1.runs] : List Int))))] := H.mod 2 rfl M1 O1 D1
      replace R0 := H.ext
      refine LW.pure rfl rfl (RV.assign rfl) ?_
      refine LW.nil (hK8 _ _ ?_)
      obtain ⟨hg2, F⟩ := gd_some F
      refine CW.region ?_
      refine LW.pure rfl rfl (RV.add rfl rfl hg2) ?_
      refine LW.pure rfl rfl (RV.move rfl) ?_
      refine LW.nil ?_
      replace H := H.pick (L' := [.own A2 c2 3 1 (List.map encN ((l2 ++ ([x1.runs] : List Int))))]) [2] (by decide) rfl
      replace R0 := H.ext
      subst hrec1
      refine ⟨mk1, Nat.lt_succ_self _, _, ?_, (t8_1 + 1), ((l2 ++ ([x1.runs] : List Int))), A2, c2, F, rfl, H⟩
      exact ⟨rfl, (look_slice rfl (by first | rfl | (simp; done) | (simp; omega))), rfl, rfl, rfl, trivial⟩
    ·
      replace F := ite_n hp1 F
      have hq1 := dec_f hp1
      refine CW.condF rfl hq1 ?_
      refine CW.exit (jK47 _ _ ⟨_, ?_, ⟨l2, Al2, cl2, F, rfl, H⟩⟩)
      exact ⟨rfl, (look_slice rfl (by first | rfl | (simp; done) | (simp; omega))), trivial⟩
set_option maxRecDepth 20000 in
set_option maxHeartbeats 1000000 in
theorem drain_value_ok {a0 : Net} {a1 : List Int} {a2 : Int} {A_a0_drains : Option Addr} {c_a0_drains : Nat} {A_a1 : Option Addr} {c_a1 : Nat} {w : World} {res : Int} (h_a0_drains : Sl w A_a0_drains c_a0_drains 3 (a0.drains.map encDrain)) (h_a1 : Sl w A_a1 c_a1 1 (a1.map encN)) (F : drain_value a0 a1 a2 = some res) : Calls Try.prog 63 #[.agg #[.int .i64 a0.nodes, .int .i64 a0.from_, .int .i64 a0.to_, .slice A_a0_drains a0.drains.length c_a0_drains], .slice A_a1 a1.length c_a1, .int .i64 a2] w (Rt w (.int .i64 res)) := by
  refine calls_of_cw (args := [.agg #[.int .i64 a0.nodes, .int .i64 a0.from_, .int .i64 a0.to_, .slice A_a0_drains a0.drains.length c_a0_drains], .slice A_a1 a1.length c_a1, .int .i64 a2]) Try.func63 rfl rfl rfl rfl ?_
  have H := Hp.start w
  have R0 := H.ext
  unfold drain_value at F
  refine CW.seq fun K1 hK1 => ?_
  refine CW.region ?_
  refine LW.go rfl rfl (OW.box rfl fun b1 w1 N1 => ?_)
  replace H := H.new N1 N1.blk
  replace R0 := H.ext
  refine LW.pure rfl rfl (RV.assign rfl) ?_
  refine LW.nil (hK1 _ _ ?_)
  refine CW.seq fun K2 hK2 => ?_
  refine CW.region ?_
  refine LW.pure rfl rfl (RV.assign rfl) ?_
  refine LW.nil (hK2 _ _ ?_)
  refine CW.seqJ (fun ρ wl1 => (∃ (t7_1 : Int), drain_value_k1 t7_1 = some res ∧ ρ = [(6, .int .i64 0), (7, .int .i64 t7_1)] ∧ Hp w wl1 [])) ?_ ?_
  ·
    rintro _ wl1 ⟨t7_1, F, rfl, H⟩
    have R0 := H.ext
    unfold drain_value_k1 at F
    refine CW.seq fun K3 hK3 => ?_
    refine CW.region ?_
    refine LW.pure rfl rfl (RV.move rfl) ?_
    refine LW.pure rfl rfl (RV.assign rfl) ?_
    refine LW.nil (hK3 _ _ ?_)
    refine CW.ret ?_
    obtain rfl := Option.some.inj F
    refine ⟨_, (ResOK.one rfl), ?_⟩
    refine ⟨(by first | rfl | simp), R0⟩
  ·
    intro K4 hK4 jK128
    refine CW.seq fun K5 hK5 => ?_
    refine CW.region ?_
    refine LW.pure rfl rfl (RV.fieldAddr Tf24_3 rfl) ?_
    refine LW.pure rfl rfl (RV.load1 Tk22 rfl ((H.blk 0 rfl).cells.off 3) rfl) ?_
    refine LW.pure rfl rfl (RV.len Ts22 rfl) ?_
    refine LW.pure rfl rfl (RV.move rfl) ?_
    refine LW.nil (hK5 _ _ ?_)
    refine CW.block ?_
    replace H := H.pick (L' := []) [] (by decide) rfl
    replace R0 := H.ext
    refine CW.loop (fun meas ρ wl2 => ∃ (t7_4 : Int) (t13_1 : Int), drain_value_L1 a0 a1 a2 meas t7_4 t13_1 = some res ∧ ρ = [(1, .slice A_a1 a1.length c_a1), (2, .int .i64 a2), (6, .int .i64 0), (7, .int .i64 t7_4), (11, .slice A_a0_drains a0.drains.length c_a0_drains), (12, .int .i64 ((a0.drains.length : Int))), (13, .int .i64 t13_1)] ∧ Hp w wl2 []) FU ⟨_, ?_, ((0 : Int)), ((0 : Int)), F, rfl, H⟩ ?_
    · exact ⟨rfl, rfl, rfl, rfl, rfl, rfl, rfl, trivial⟩
    rintro mk1 _ wl2 ⟨t7_4, t13_1, F, rfl, H⟩
    have R0 := H.ext
    replace F := drain_value_L1_s F
    obtain ⟨mk1, rfl, F⟩ := F
    generalize hrec1 : drain_value_L1 a0 a1 a2 mk1 = rec1 at F
    unfold drain_value_B1 at F
    refine CW.seq fun K6 hK6 => ?_
    refine CW.region ?_
    refine LW.pure rfl rfl (RV.lss rfl rfl) ?_
    refine LW.nil (hK6 _ _ ?_)
    refine CW.seq fun K7 hK7 => ?_
    by_cases hp1 : t13_1 < ((a0.drains.length : Int))
    ·
      replace F := ite_y hp1 F
      have hq1 := dec_t hp1
      refine CW.condT rfl hq1 ?_
      refine CW.skip (hK7 _ _ ?_)
      refine CW.seqJ (fun ρ wl3 => (∃ (t7_2 : Int), drain_value_k2 t13_1 rec1 t7_2 = some res ∧ ρ = [(1, .slice A_a1 a1.length c_a1), (2, .int .i64 a2), (6, .int .i64 0), (7, .int .i64 t7_2), (11, .slice A_a0_drains a0.drains.length c_a0_drains), (12, .int .i64 ((a0.drains.length : Int))), (13, .int .i64 t13_1)] ∧ Hp w wl3 [])) ?_ ?_
      ·
        rintro _ wl3 ⟨t7_2, F, rfl, H⟩
        have R0 := H.ext
        unfold drain_value_k2 at F
        obtain ⟨hg1, F⟩ := gd_some F
        refine CW.region ?_
        refine LW.pure rfl rfl (RV.add rfl rfl hg1) ?_
        refine LW.pure rfl rfl (RV.move rfl) ?_
        refine LW.nil ?_
        subst hrec1
        refine ⟨mk1, Nat.lt_succ_self _, _, ?_, t7_2, (t13_1 + 1), F, rfl, H⟩
        exact ⟨rfl, rfl, rfl, rfl, rfl, rfl, rfl, trivial⟩
      ·
        intro K8 hK8 jK163
        refine CW.block ?_
        refine CW.seq fun K9 hK9 => ?_
        obtain ⟨x1, hbx1, hx1, F⟩ := ix_some F
        refine CW.region ?_
        refine LW.pure rfl rfl (RV.move rfl) ?_
        refine LW.pure rfl rfl (RV.indexAddr Ts22 rfl rfl hbx1 (h_a0_drains.addr_ hx1)) ?_
        refine LW.pure rfl rfl (RV.loadA [.int .i64 x1.from_, .int .i64 x1.to_, .int .i64 x1.width] Tk52 rfl ((h_a0_drains.at_ hx1).ext R0) rfl rfl) ?_
        refine LW.go rfl rfl (OW.alloc Tz52 fun b2 w2 N2 => ?_)
        replace H := H.new N2 N2.blk
        replace R0 := H.ext
        refine LW.pure rfl rfl (RV.assign rfl) ?_
        refine LW.go rfl rfl (OW.store Tk52 rfl rfl (H.blk 0 rfl) (off := 0) (vs := [.int .i64 x1.from_, .int .i64 x1.to_, .int .i64 x1.width]) rfl rfl rfl rfl rfl fun w3 S1 => ?_)
        replace H : Hp w w3 [.blk b2 52 [.int .i64 x1.from_, .int .i64 x1.to_, .int .i64 x1.width]] := H.stored 0 rfl S1
        replace R0 := H.ext
        refine LW.nil (hK9 _ _ ?_)
        refine CW.seqJ (fun ρ wl4 => (∃ (t7_3 : Int), drain_value_k3 a1 a2 t13_1 rec1 x1 t7_3 = some res ∧ ρ = [(1, .slice A_a1 a1.length c_a1), (2, .int .i64 a2), (6, .int .i64 0), (7, .int .i64 t7_3), (8, .int .i64 t13_1), (9, .pointer (some (⟨b2, 0, none⟩))), (11, .slice A_a0_drains a0.drains.length c_a0_drains), (12, .int .i64 ((a0.drains.length : Int))), (13, .int .i64 t13_1)] ∧ Hp w wl4 [.blk b2 52 [.int .i64 x1.from_, .int .i64 x1.to_, .int .i64 x1.width]])) ?_ ?_
        ·
          rintro _ wl4 ⟨t7_3, F, rfl, H⟩
          have R0 := H.ext
          unfold drain_value_k3 at F
          refine CW.seq fun K10 hK10 => ?_
          refine CW.region ?_
          refine LW.pure rfl rfl (RV.fieldAddr Tf52_1 rfl) ?_
          refine LW.pure rfl rfl (RV.load1 Tk3 rfl ((H.blk 0 rfl).cells.off 1) rfl) ?_
          refine LW.pure rfl rfl (RV.move rfl) ?_
          refine LW.pure rfl rfl (RV.eqi rfl rfl) ?_
          refine LW.nil (hK10 _ _ ?_)
          by_cases hp2 : x1.to_ = a2
          ·
            replace F := ite_y hp2 F
            have hq2 := dec_t hp2
            refine CW.condT rfl hq2 ?_
            obtain ⟨x2, hbx2, hx2, F⟩ := ix_some F
            obtain ⟨hg2, F⟩ := gd_some F
            refine CW.region ?_
            refine LW.pure rfl rfl (RV.move rfl) ?_
            refine LW.pure rfl rfl (RV.move rfl) ?_
            refine LW.pure rfl rfl (RV.move rfl) ?_
            refine LW.pure rfl rfl (RV.indexAddr Ts30 rfl rfl hbx2 (h_a1.addr_ hx2)) ?_
            refine LW.pure rfl rfl (RV.load1 Tk3 rfl ((h_a1.at_ hx2).ext R0) rfl) ?_
            refine LW.pure rfl rfl (RV.sub rfl rfl hg2) ?_
            refine LW.pure rfl rfl (RV.assign rfl) ?_
            replace H := H.pick (L' := []) [] (by decide) rfl
            replace R0 := H.ext
            refine LW.nil (jK163 _ _ ⟨_, ?_, ⟨(t7_3 - x2), F, rfl, H⟩⟩)
            exact ⟨rfl, rfl, rfl, rfl, rfl, rfl, rfl, trivial⟩
          ·
            replace F := ite_n hp2 F
            have hq2 := dec_f hp2
            refine CW.condF rfl hq2 ?_
            replace H := H.pick (L' := []) [] (by decide) rfl
            replace R0 := H.ext
            refine CW.skip (jK163 _ _ ⟨_, ?_, ⟨t7_3, F, rfl, H⟩⟩)
            exact ⟨rfl, rfl, rfl, rfl, rfl, rfl, rfl, trivial⟩
        ·
          intro K11 hK11 jK167
          refine CW.seq fun K12 hK12 => ?_
          refine CW.region ?_
          refine LW.pure rfl rfl (RV.fieldAddr Tf52_0 rfl) ?_
          refine LW.pure rfl rfl (RV.load1 Tk3 rfl ((H.blk 0 rfl).cells.off 0) rfl) ?_
          refine LW.pure rfl rfl (RV.move rfl) ?_
          refine LW.pure rfl rfl (RV.eqi rfl rfl) ?_
          refine LW.nil (hK12 _ _ ?_)
          by_cases hp3 : x1.from_ = a2
          ·
            replace F := ite_y hp3 F
            have hq3 := dec_t hp3
            refine CW.condT rfl hq3 ?_
            obtain ⟨x3, hbx3, hx3, F⟩ := ix_some F
            obtain ⟨hg3, F⟩ := gd_some F
            refine CW.region ?_
            refine LW.pure rfl rfl (RV.move rfl) ?_
            refine LW.pure rfl rfl (RV.move rfl) ?_
            refine LW.pure rfl rfl (RV.move rfl) ?_
            refine LW.pure rfl rfl (RV.indexAddr Ts30 rfl rfl hbx3 (h_a1.addr_ hx3)) ?_
            refine LW.pure rfl rfl (RV.load1 Tk3 rfl ((h_a1.at_ hx3).ext R0) rfl) ?_
            refine LW.pure rfl rfl (RV.add rfl rfl hg3) ?_
            refine LW.pure rfl rfl (RV.assign rfl) ?_
            refine LW.nil (jK167 _ _ ⟨_, ?_, ⟨(t7_4 + x3), F, rfl, H⟩⟩)
            exact ⟨rfl, rfl, rfl, rfl, rfl, rfl, rfl, rfl, rfl, trivial⟩
          ·
            replace F := ite_n hp3 F
            have hq3 := dec_f hp3
            refine CW.condF rfl hq3 ?_
            refine CW.skip (jK167 _ _ ⟨_, ?_, ⟨t7_4, F, rfl, H⟩⟩)
            exact ⟨rfl, rfl, rfl, rfl, rfl, rfl, rfl, rfl, rfl, trivial⟩
    ·
      replace F := ite_n hp1 F
      have hq1 := dec_f hp1
      refine CW.condF rfl hq1 ?_
      refine CW.exit (jK128 _ _ ⟨_, ?_, ⟨t7_4, F, rfl, H⟩⟩)
      exact ⟨rfl, rfl, trivial⟩
set_option maxRecDepth 20000 in
set_option maxHeartbeats 1000000 in
theorem drain_most_ok {a0 : Net} {A_a0_drains : Option Addr} {c_a0_drains : Nat} {w : World} {res : Int} (h_a0_drains : Sl w A_a0_drains c_a0_drains 3 (a0.drains.map encDrain)) (F : drain_most a0 = some res) : Calls Try.prog 56 #[.agg #[.int .i64 a0.nodes, .int .i64 a0.from_, .int .i64 a0.to_, .slice A_a0_drains a0.drains.length c_a0_drains]] w (Rt w (.int .i64 res)) := by
  refine calls_of_cw (args := [.agg #[.int .i64 a0.nodes, .int .i64 a0.from_, .int .i64 a0.to_, .slice A_a0_drains a0.drains.length c_a0_drains]]) Try.func56 rfl rfl rfl rfl ?_
  have H := Hp.start w
  have R0 := H.ext
  unfold drain_most at F
  refine CW.seq fun K1 hK1 => ?_
  refine CW.region ?_
  refine LW.go rfl rfl (OW.box rfl fun b1 w1 N1 => ?_)
  replace H := H.new N1 N1.blk
  replace R0 := H.ext
  refine LW.pure rfl rfl (RV.assign rfl) ?_
  refine LW.nil (hK1 _ _ ?_)
  refine CW.seq fun K2 hK2 => ?_
  obtain ⟨r1, hr1, F⟩ := bnd_some F
  obtain ⟨r2, hr2, F⟩ := bnd_some F
  obtain ⟨r3, hr3, F⟩ := bnd_some F
  refine CW.draw [] (fun _ => True) (.cons 0 1 (.cons 1 1 (.cons 4 1 (.cons 5 1 (.cons 2 0 (.cons 3 0 (.cons 6 0 (.cons 7 1 .nil)))))))) mixed (by kernel_rfl) fun w2 E1 => ?_
  replace H := H.grow E1
  replace R0 := H.ext
  refine DW.fix rfl rfl rfl (fun _ EQ => RV.loadA [.int .i64 a0.nodes, .int .i64 a0.from_, .int .i64 a0.to_, .slice A_a0_drains a0.drains.length c_a0_drains] Tk24 rfl ((H.grow EQ).blk 0 rfl).cells rfl rfl) ?_
  refine DW.fix rfl rfl rfl (fun _ EQ => RV.loadA [.int .i64 a0.nodes, .int .i64 a0.from_, .int .i64 a0.to_, .slice A_a0_drains a0.drains.length c_a0_drains] Tk24 rfl ((H.grow EQ).blk 0 rfl).cells rfl rfl) ?_
  refine DW.fix rfl rfl rfl (fun _ EQ => RV.fieldAddr Tf24_1 rfl) ?_
  refine DW.fix rfl rfl rfl (fun _ EQ => RV.load1 Tk3 rfl (((H.grow EQ).blk 0 rfl).cells.off 1) rfl) ?_
  refine DW.sole rfl rfl rfl (OW.call Tc59 rfl (drain_run_ok (a0 := a0) (h_a0_drains.ext R0) hr1) ?_)
  rintro _ w3 ⟨A7_0, c7_0, rfl, E2⟩
  refine ⟨_, rfl, fun _ => E2.ext, ModX.ext E2.ext, ?_⟩
  replace H : Hp w w3 [.own A7_0 c7_0 87 4 (List.map encLeft r1), .blk b1 24 [.int .i64 a0.nodes, .int .i64 a0.from_, .int .i64 a0.to_, .slice A_a0_drains a0.drains.length c_a0_drains]] := H.append E2
  replace R0 := H.ext
  refine DW.sole rfl rfl rfl (OW.call Tc58 rfl (drain_flowOf_ok (a0 := r1) (H.own 0 rfl).sl hr2) ?_)
  rintro _ w4 ⟨A8_0, c8_0, rfl, E3⟩
  refine ⟨_, rfl, fun _ => E3.ext, ModX.ext E3.ext, ?_⟩
  replace H : Hp w w4 [.own A8_0 c8_0 3 1 (List.map encN r2), .own A7_0 c7_0 87 4 (List.map encLeft r1), .blk b1 24 [.int .i64 a0.nodes, .int .i64 a0.from_, .int .i64 a0.to_, .slice A_a0_drains a0.drains.length c_a0_drains]] := H.append E3
  replace R0 := H.ext
  refine DW.sole rfl rfl rfl (OW.call Tc63 rfl (drain_value_ok (a0 := a0) (a1 := r2) (a2 := a0.from_) (h_a0_drains.ext R0) (H.own 0 rfl).sl hr3) ?_)
  rintro _ w5 ⟨rfl, E4⟩
  refine ⟨_, rfl, fun _ => E4, ModX.ext E4, ?_⟩
  replace H := H.grow E4
  replace R0 := H.ext
  refine DW.fix rfl rfl rfl (fun _ EQ => RV.assign rfl) ?_
  refine DW.nil (hK2 _ _ ?_)
  refine CW.ret ?_
  obtain rfl := Option.some.inj F
  refine ⟨_, (ResOK.one rfl), ?_⟩
  refine ⟨(by first | rfl | simp), R0⟩
set_option maxRecDepth 20000 in
set_option maxHeartbeats 1000000 in
theorem drain_Most_ok {a0 : Net} {A_a0_drains : Option Addr} {c_a0_drains : Nat} {w : World} {res : Int × Int} (h_a0_drains : Sl w A_a0_drains c_a0_drains 3 (a0.drains.map encDrain)) (F : drain_Most a0 = some res) : Calls Try.prog 18 #[.agg #[.int .i64 a0.nodes, .int .i64 a0.from_, .int .i64 a0.to_, .slice A_a0_drains a0.drains.length c_a0_drains]] w (Rt w (.tuple #[.int .i64 res.1, .int .i64 res.2])) := by
  refine calls_of_cw (args := [.agg #[.int .i64 a0.nodes, .int .i64 a0.from_, .int .i64 a0.to_, .slice A_a0_drains a0.drains.length c_a0_drains]]) Try.func18 rfl rfl rfl rfl ?_
  have H := Hp.start w
  have R0 := H.ext
  unfold drain_Most at F
  refine CW.seq fun K1 hK1 => ?_
  refine CW.region ?_
  refine LW.go rfl rfl (OW.box rfl fun b1 w1 N1 => ?_)
  replace H := H.new N1 N1.blk
  replace R0 := H.ext
  refine LW.pure rfl rfl (RV.assign rfl) ?_
  refine LW.pure rfl rfl (RV.assign rfl) ?_
  refine LW.nil (hK1 _ _ ?_)
  refine CW.seq fun K2 hK2 => ?_
  refine CW.seq fun K3 hK3 => ?_
  obtain ⟨r1, hr1, F⟩ := bnd_some F
  refine CW.region ?_
  refine LW.pure rfl rfl (RV.loadA [.int .i64 a0.nodes, .int .i64 a0.from_, .int .i64 a0.to_, .slice A_a0_drains a0.drains.length c_a0_drains] Tk24 rfl (H.blk 0 rfl).cells rfl rfl) ?_
  refine LW.go rfl rfl (OW.call Tc26 rfl (drain_Validate_ok (a0 := a0) (h_a0_drains.ext R0) hr1) ?_)
  rintro _ w2 ⟨rfl, E1⟩
  refine ⟨_, rfl, ?_⟩
  replace H := H.grow E1
  replace R0 := H.ext
  refine LW.pure rfl rfl (RV.assign rfl) ?_
  refine LW.nil (hK3 _ _ ?_)
  refine CW.seq fun K4 hK4 => ?_
  refine CW.region ?_
  refine LW.pure rfl rfl (RV.move rfl) ?_
  refine LW.pure rfl rfl (RV.nei rfl rfl) ?_
  refine LW.nil (hK4 _ _ ?_)
  by_cases hp1 : r1 = 0
  ·
    replace F := ite_y hp1 F
    have hq1 := dec_t hp1
    refine CW.condF rfl (not_f hq1) ?_
    refine CW.skip (hK2 _ _ ?_)
    refine CW.seq fun K5 hK5 => ?_
    obtain ⟨r2, hr2, F⟩ := bnd_some F
    refine CW.region ?_
    refine LW.pure rfl rfl (RV.loadA [.int .i64 a0.nodes, .int .i64 a0.from_, .int .i64 a0.to_, .slice A_a0_drains a0.drains.length c_a0_drains] Tk24 rfl (H.blk 0 rfl).cells rfl rfl) ?_
    refine LW.go rfl rfl (OW.call Tc56 rfl (drain_most_ok (a0 := a0) (h_a0_drains.ext R0) hr2) ?_)
    rintro _ w3 ⟨rfl, E2⟩
    refine ⟨_, rfl, ?_⟩
    replace H := H.grow E2
    replace R0 := H.ext
    refine LW.pure rfl rfl (RV.assign rfl) ?_
    refine LW.pure rfl rfl (RV.assign rfl) ?_
    refine LW.nil (hK5 _ _ ?_)
    refine CW.ret ?_
    obtain rfl := Option.some.inj F
    refine ⟨_, (ResOK.two rfl rfl), ?_⟩
    refine ⟨(by first | rfl | simp), R0⟩
  ·
    replace F := ite_n hp1 F
    have hq1 := dec_f hp1
    refine CW.condT rfl (not_t hq1) ?_
    refine CW.seq fun K6 hK6 => ?_
    refine CW.region ?_
    refine LW.pure rfl rfl (RV.move rfl) ?_
    refine LW.pure rfl rfl (RV.assign rfl) ?_
    refine LW.pure rfl rfl (RV.assign rfl) ?_
    refine LW.nil (hK6 _ _ ?_)
    refine CW.ret ?_
    obtain rfl := Option.some.inj F
    refine ⟨_, (ResOK.two rfl rfl), ?_⟩
    refine ⟨(by first | rfl | simp), R0⟩
set_option maxRecDepth 20000 in
set_option maxHeartbeats 1000000 in
theorem slices_Index_int_ok {a0 : List Int} {a1 : Int} {A_a0 : Option Addr} {c_a0 : Nat} {w : World} {res : Int} (h_a0 : Sl w A_a0 c_a0 1 (a0.map encN)) (F : slices_Index_int a0 a1 = some res) : Calls Try.prog 91 #[.slice A_a0 a0.length c_a0, .int .i64 a1] w (Rt w (.int .i64 res)) := by
  refine calls_of_cw (args := [.slice A_a0 a0.length c_a0, .int .i64 a1]) Try.func91 rfl rfl rfl rfl ?_
  have H := Hp.start w
  have R0 := H.ext
  unfold slices_Index_int at F
  refine CW.seq fun K1 hK1 => ?_
  refine CW.region ?_
  refine LW.pure rfl rfl (RV.assign rfl) ?_
  refine LW.nil (hK1 _ _ ?_)
  refine CW.seqJ (fun ρ wl1 => (slices_Index_int_k1 = some res ∧ ρ = [(4, .int .i64 0)] ∧ Hp w wl1 [])) ?_ ?_
  ·
    rintro _ wl1 ⟨F, rfl, H⟩
    have R0 := H.ext
    unfold slices_Index_int_k1 at F
    refine CW.seq fun K2 hK2 => ?_
    refine CW.region ?_
    refine LW.pure rfl rfl (RV.assign rfl) ?_
    refine LW.nil (hK2 _ _ ?_)
    refine CW.ret ?_
    obtain rfl := Option.some.inj F
    refine ⟨_, (ResOK.one rfl), ?_⟩
    refine ⟨(by first | rfl | simp), R0⟩
  ·
    intro K3 hK3 jK63
    refine CW.seq fun K4 hK4 => ?_
    refine CW.region ?_
    refine LW.pure rfl rfl (RV.move rfl) ?_
    refine LW.pure rfl rfl (RV.len Ts30 rfl) ?_
    refine LW.pure rfl rfl (RV.move rfl) ?_
    refine LW.nil (hK4 _ _ ?_)
    refine CW.block ?_
    refine CW.loop (fun meas ρ wl2 => ∃ (t8_1 : Int), slices_Index_int_L1 a0 a1 meas t8_1 = some res ∧ ρ = [(0, .slice A_a0 a0.length c_a0), (1, .int .i64 a1), (4, .int .i64 0), (7, .int .i64 ((a0.length : Int))), (8, .int .i64 t8_1)] ∧ Hp w wl2 []) FU ⟨_, ?_, ((0 : Int)), F, rfl, H⟩ ?_
    · exact ⟨rfl, rfl, rfl, rfl, rfl, trivial⟩
    rintro mk1 _ wl2 ⟨t8_1, F, rfl, H⟩
    have R0 := H.ext
    replace F := slices_Index_int_L1_s F
    obtain ⟨mk1, rfl, F⟩ := F
    generalize hrec1 : slices_Index_int_L1 a0 a1 mk1 = rec1 at F
    unfold slices_Index_int_B1 at F
    refine CW.seq fun K5 hK5 => ?_
    refine CW.region ?_
    refine LW.pure rfl rfl (RV.lss rfl rfl) ?_
    refine LW.nil (hK5 _ _ ?_)
    refine CW.seq fun K6 hK6 => ?_
    by_cases hp1 : t8_1 < ((a0.length : Int))
    ·
      replace F := ite_y hp1 F
      have hq1 := dec_t hp1
      refine CW.condT rfl hq1 ?_
      refine CW.skip (hK6 _ _ ?_)
      refine CW.seq fun K7 hK7 => ?_
      refine CW.block ?_
      refine CW.seq fun K8 hK8 => ?_
      refine CW.region ?_
      refine LW.pure rfl rfl (RV.move rfl) ?_
      refine LW.pure rfl rfl (RV.assign rfl) ?_
      refine LW.nil (hK8 _ _ ?_)
      refine CW.seq fun K9 hK9 => ?_
      obtain ⟨x1, hbx1, hx1, F⟩ := ix_some F
      refine CW.region ?_
      refine LW.pure rfl rfl (RV.move rfl) ?_
      refine LW.pure rfl rfl (RV.move rfl) ?_
      refine LW.pure rfl rfl (RV.move rfl) ?_
      refine LW.pure rfl rfl (RV.indexAddr Ts30 rfl rfl hbx1 (h_a0.addr_ hx1)) ?_
      refine LW.pure rfl rfl (RV.load1 Tk3 rfl ((h_a0.at_ hx1).ext R0) rfl) ?_
      refine LW.pure rfl rfl (RV.eqi rfl rfl) ?_
      refine LW.nil (hK9 _ _ ?_)
      by_cases hp2 : a1 = x1
      ·
        replace F := ite_y hp2 F
        have hq2 := dec_t hp2
        refine CW.condT rfl hq2 ?_
        refine CW.seq fun K10 hK10 => ?_
        refine CW.region ?_
        refine LW.pure rfl rfl (RV.move rfl) ?_
        refine LW.pure rfl rfl (RV.assign rfl) ?_
        refine LW.nil (hK10 _ _ ?_)
        refine CW.ret ?_
        obtain rfl := Option.some.inj F
        refine ⟨_, (ResOK.one rfl), ?_⟩
        refine ⟨(by first | rfl | simp), R0⟩
      ·
        replace F := ite_n hp2 F
        have hq2 := dec_f hp2
        refine CW.condF rfl hq2 ?_
        refine CW.skip (hK7 _ _ ?_)
        obtain ⟨hg1, F⟩ := gd_some F
        refine CW.region ?_
        refine LW.pure rfl rfl (RV.add rfl rfl hg1) ?_
        refine LW.pure rfl rfl (RV.move rfl) ?_
        refine LW.nil ?_
        subst hrec1
        refine ⟨mk1, Nat.lt_succ_self _, _, ?_, (t8_1 + 1), F, rfl, H⟩
        exact ⟨rfl, rfl, rfl, rfl, rfl, trivial⟩
    ·
      replace F := ite_n hp1 F
      have hq1 := dec_f hp1
      refine CW.condF rfl hq1 ?_
      refine CW.exit (jK63 _ _ ⟨_, ?_, ⟨F, rfl, H⟩⟩)
      exact ⟨rfl, trivial⟩
set_option maxRecDepth 20000 in
set_option maxHeartbeats 1000000 in
theorem slices_Contains_int_ok {a0 : List Int} {a1 : Int} {A_a0 : Option Addr} {c_a0 : Nat} {w : World} {res : Bool} (h_a0 : Sl w A_a0 c_a0 1 (a0.map encN)) (F : slices_Contains_int a0 a1 = some res) : Calls Try.prog 65 #[.slice A_a0 a0.length c_a0, .int .i64 a1] w (Rt w (.bool res)) := by
  refine calls_of_cw (args := [.slice A_a0 a0.length c_a0, .int .i64 a1]) Try.func65 rfl rfl rfl rfl ?_
  have H := Hp.start w
  have R0 := H.ext
  unfold slices_Contains_int at F
  refine CW.seq fun K1 hK1 => ?_
  refine CW.region ?_
  refine LW.pure rfl rfl (RV.assign rfl) ?_
  refine LW.nil (hK1 _ _ ?_)
  refine CW.seq fun K2 hK2 => ?_
  obtain ⟨r1, hr1, F⟩ := bnd_some F
  refine CW.region ?_
  refine LW.pure rfl rfl (RV.move rfl) ?_
  refine LW.pure rfl rfl (RV.move rfl) ?_
  refine LW.go rfl rfl (OW.call Tc91 rfl (slices_Index_int_ok (a0 := a0) (a1 := a1) (h_a0.ext R0) hr1) ?_)
  rintro _ w1 ⟨rfl, E1⟩
  refine ⟨_, rfl, ?_⟩
  replace H := H.grow E1
  replace R0 := H.ext
  refine LW.pure rfl rfl (RV.geq rfl rfl) ?_
  refine LW.pure rfl rfl (RV.assign rfl) ?_
  refine LW.nil (hK2 _ _ ?_)
  refine CW.ret ?_
  obtain rfl := Option.some.inj F
  refine ⟨_, (ResOK.one rfl), ?_⟩
  refine ⟨(by first | rfl | simp), R0⟩
set_option maxRecDepth 20000 in
set_option maxHeartbeats 1000000 in
theorem drain_across_ok {a0 : Net} {a1 : List Int} {A_a0_drains : Option Addr} {c_a0_drains : Nat} {A_a1 : Option Addr} {c_a1 : Nat} {w : World} {res : Int} (h_a0_drains : Sl w A_a0_drains c_a0_drains 3 (a0.drains.map encDrain)) (h_a1 : Sl w A_a1 c_a1 1 (a1.map encN)) (F : drain_across a0 a1 = some res) : Calls Try.prog 66 #[.agg #[.int .i64 a0.nodes, .int .i64 a0.from_, .int .i64 a0.to_, .slice A_a0_drains a0.drains.length c_a0_drains], .slice A_a1 a1.length c_a1] w (Rt w (.int .i64 res)) := by
  refine calls_of_cw (args := [.agg #[.int .i64 a0.nodes, .int .i64 a0.from_, .int .i64 a0.to_, .slice A_a0_drains a0.drains.length c_a0_drains], .slice A_a1 a1.length c_a1]) Try.func66 rfl rfl rfl rfl ?_
  have H := Hp.start w
  have R0 := H.ext
  unfold drain_across at F
  refine CW.seq fun K1 hK1 => ?_
  refine CW.region ?_
  refine LW.go rfl rfl (OW.box rfl fun b1 w1 N1 => ?_)
  replace H := H.new N1 N1.blk
  replace R0 := H.ext
  refine LW.pure rfl rfl (RV.assign rfl) ?_
  refine LW.nil (hK1 _ _ ?_)
  refine CW.seq fun K2 hK2 => ?_
  refine CW.region ?_
  refine LW.pure rfl rfl (RV.assign rfl) ?_
  refine LW.nil (hK2 _ _ ?_)
  refine CW.seqJ (fun ρ wl1 => (∃ (t5_1 : Int), drain_across_k1 t5_1 = some res ∧ ρ = [(4, .int .i64 0), (5, .int .i64 t5_1)] ∧ Hp w wl1 [])) ?_ ?_
  ·
    rintro _ wl1 ⟨t5_1, F, rfl, H⟩
    have R0 := H.ext
    unfold drain_across_k1 at F
    refine CW.seq fun K3 hK3 => ?_
    refine CW.region ?_
    refine LW.pure rfl rfl (RV.move rfl) ?_
    refine LW.pure rfl rfl (RV.assign rfl) ?_
    refine LW.nil (hK3 _ _ ?_)
    refine CW.ret ?_
    obtain rfl := Option.some.inj F
    refine ⟨_, (ResOK.one rfl), ?_⟩
    refine ⟨(by first | rfl | simp), R0⟩
  ·
    intro K4 hK4 jK74
    refine CW.seq fun K5 hK5 => ?_
    refine CW.region ?_
    refine LW.pure rfl rfl (RV.fieldAddr Tf24_3 rfl) ?_
    refine LW.pure rfl rfl (RV.load1 Tk22 rfl ((H.blk 0 rfl).cells.off 3) rfl) ?_
    refine LW.pure rfl rfl (RV.len Ts22 rfl) ?_
    refine LW.pure rfl rfl (RV.move rfl) ?_
    refine LW.nil (hK5 _ _ ?_)
    refine CW.block ?_
    replace H := H.pick (L' := []) [] (by decide) rfl
    replace R0 := H.ext
    refine CW.loop (fun meas ρ wl2 => ∃ (t5_3 : Int) (t11_1 : Int), drain_across_L1 a0 a1 meas t5_3 t11_1 = some res ∧ ρ = [(1, .slice A_a1 a1.length c_a1), (4, .int .i64 0), (5, .int .i64 t5_3), (9, .slice A_a0_drains a0.drains.length c_a0_drains), (10, .int .i64 ((a0.drains.length : Int))), (11, .int .i64 t11_1)] ∧ Hp w wl2 []) FU ⟨_, ?_, ((0 : Int)), ((0 : Int)), F, rfl, H⟩ ?_
    · exact ⟨rfl, rfl, rfl, rfl, rfl, rfl, trivial⟩
    rintro mk1 _ wl2 ⟨t5_3, t11_1, F, rfl, H⟩
    have R0 := H.ext
    replace F := drain_across_L1_s F
    obtain ⟨mk1, rfl, F⟩ := F
    generalize hrec1 : drain_across_L1 a0 a1 mk1 = rec1 at F
    unfold drain_across_B1 at F
    refine CW.seq fun K6 hK6 => ?_
    refine CW.region ?_
    refine LW.pure rfl rfl (RV.lss rfl rfl) ?_
    refine LW.nil (hK6 _ _ ?_)
    refine CW.seq fun K7 hK7 => ?_
    by_cases hp1 : t11_1 < ((a0.drains.length : Int))
    ·
      replace F := ite_y hp1 F
      have hq1 := dec_t hp1
      refine CW.condT rfl hq1 ?_
      refine CW.skip (hK7 _ _ ?_)
      refine CW.seqJ (fun ρ wl3 => (∃ (t5_2 : Int), drain_across_k2 t11_1 rec1 t5_2 = some res ∧ ρ = [(1, .slice A_a1 a1.length c_a1), (4, .int .i64 0), (5, .int .i64 t5_2), (9, .slice A_a0_drains a0.drains.length c_a0_drains), (10, .int .i64 ((a0.drains.length : Int))), (11, .int .i64 t11_1)] ∧ Hp w wl3 [])) ?_ ?_
      ·
        rintro _ wl3 ⟨t5_2, F, rfl, H⟩
        have R0 := H.ext
        unfold drain_across_k2 at F
        obtain ⟨hg1, F⟩ := gd_some F
        refine CW.region ?_
        refine LW.pure rfl rfl (RV.add rfl rfl hg1) ?_
        refine LW.pure rfl rfl (RV.move rfl) ?_
        refine LW.nil ?_
        subst hrec1
        refine ⟨mk1, Nat.lt_succ_self _, _, ?_, t5_2, (t11_1 + 1), F, rfl, H⟩
        exact ⟨rfl, rfl, rfl, rfl, rfl, rfl, trivial⟩
      ·
        intro K8 hK8 jK94
        refine CW.block ?_
        refine CW.seq fun K9 hK9 => ?_
        obtain ⟨x1, hbx1, hx1, F⟩ := ix_some F
        refine CW.region ?_
        refine LW.pure rfl rfl (RV.indexAddr Ts22 rfl rfl hbx1 (h_a0_drains.addr_ hx1)) ?_
        refine LW.pure rfl rfl (RV.loadA [.int .i64 x1.from_, .int .i64 x1.to_, .int .i64 x1.width] Tk52 rfl ((h_a0_drains.at_ hx1).ext R0) rfl rfl) ?_
        refine LW.go rfl rfl (OW.alloc Tz52 fun b2 w2 N2 => ?_)
        replace H := H.new N2 N2.blk
        replace R0 := H.ext
        refine LW.go rfl rfl (OW.store Tk52 rfl rfl (H.blk 0 rfl) (off := 0) (vs := [.int .i64 x1.from_, .int .i64 x1.to_, .int .i64 x1.width]) rfl rfl rfl rfl rfl fun w3 S1 => ?_)
        replace H : Hp w w3 [.blk b2 52 [.int .i64 x1.from_, .int .i64 x1.to_, .int .i64 x1.width]] := H.stored 0 rfl S1
        replace R0 := H.ext
        refine LW.nil (hK9 _ _ ?_)
        refine CW.seqJ (fun ρ wl4 => (∃ (t25_1 : Bool), drain_across_k3 t5_3 t11_1 rec1 x1 t25_1 = some res ∧ ρ = [(1, .slice A_a1 a1.length c_a1), (4, .int .i64 0), (5, .int .i64 t5_3), (7, .pointer (some (⟨b2, 0, none⟩))), (9, .slice A_a0_drains a0.drains.length c_a0_drains), (10, .int .i64 ((a0.drains.length : Int))), (11, .int .i64 t11_1), (25, .bool t25_1)] ∧ Hp w wl4 [.blk b2 52 [.int .i64 x1.from_, .int .i64 x1.to_, .int .i64 x1.width]])) ?_ ?_
        ·
          rintro _ wl4 ⟨t25_1, F, rfl, H⟩
          have R0 := H.ext
          unfold drain_across_k3 at F
          by_cases hp2 : t25_1 = true
          ·
            replace F := ite_y hp2 F
            have hq2 : t25_1 = true := hp2
            refine CW.condT rfl hq2 ?_
            obtain ⟨hg2, F⟩ := gd_some F
            refine CW.region ?_
            refine LW.pure rfl rfl (RV.move rfl) ?_
            refine LW.pure rfl rfl (RV.fieldAddr Tf52_2 rfl) ?_
            refine LW.pure rfl rfl (RV.load1 Tk3 rfl ((H.blk 0 rfl).cells.off 2) rfl) ?_
            refine LW.pure rfl rfl (RV.add rfl rfl hg2) ?_
            refine LW.pure rfl rfl (RV.assign rfl) ?_
            replace H := H.pick (L' := []) [] (by decide) rfl
            replace R0 := H.ext
            refine LW.nil (jK94 _ _ ⟨_, ?_, ⟨(t5_3 + x1.width), F, rfl, H⟩⟩)
            exact ⟨rfl, rfl, rfl, rfl, rfl, rfl, trivial⟩
          ·
            replace F := ite_n hp2 F
            have hq2 : t25_1 = false := raw_f hp2
            refine CW.condF rfl hq2 ?_
            replace H := H.pick (L' := []) [] (by decide) rfl
            replace R0 := H.ext
            refine CW.skip (jK94 _ _ ⟨_, ?_, ⟨t5_3, F, rfl, H⟩⟩)
            exact ⟨rfl, rfl, rfl, rfl, rfl, rfl, trivial⟩
        ·
          intro K10 hK10 jK96
          obtain ⟨r1, hr1, F⟩ := bnd_some F
          by_cases hp3 : r1 = true
          ·
            replace F := ite_y hp3 F
            have hq3 : r1 = true := hp3
            obtain ⟨r2, hr2, F⟩ := bnd_some F
            refine CW.region ?_
            refine LW.pure rfl rfl (RV.move rfl) ?_
            refine LW.pure rfl rfl (RV.fieldAddr Tf52_0 rfl) ?_
            refine LW.pure rfl rfl (RV.load1 Tk3 rfl ((H.blk 0 rfl).cells.off 0) rfl) ?_
            refine LW.go rfl rfl (OW.call Tc65 rfl (slices_Contains_int_ok (a0 := a1) (a1 := x1.from_) (h_a1.ext R0) hr1) ?_)
            rintro _ w4 ⟨rfl, E1⟩
            refine ⟨_, rfl, ?_⟩
            replace H := H.grow E1
            replace R0 := H.ext
            refine LW.pure rfl rfl (RV.move rfl) ?_
            refine LW.pureYB rfl rfl rfl rfl hq3 (RV.move rfl) ?_
            refine LW.pureYB rfl rfl rfl rfl hq3 (RV.fieldAddr Tf52_1 rfl) ?_
            refine LW.pureYB rfl rfl rfl rfl hq3 (RV.load1 Tk3 rfl ((H.blk 0 rfl).cells.off 1) rfl) ?_
            refine LW.yesB rfl rfl rfl rfl hq3 (OW.call Tc65 rfl (slices_Contains_int_ok (a0 := a1) (a1 := x1.to_) (h_a1.ext R0) hr2) ?_)
            rintro _ w5 ⟨rfl, E2⟩
            refine ⟨_, rfl, ?_⟩
            replace H := H.grow E2
            replace R0 := H.ext
            refine LW.pureYB rfl rfl rfl rfl hq3 (RV.not rfl) ?_
            refine LW.pure rfl rfl (RV.pickTB rfl hq3 rfl) ?_
            refine LW.nil (jK96 _ _ ⟨_, ?_, ⟨(!r2), F, rfl, H⟩⟩)
            exact ⟨rfl, rfl, rfl, rfl, rfl, rfl, rfl, rfl, trivial⟩
          ·
            replace F := ite_n hp3 F
            have hq3 : r1 = false := raw_f hp3
            refine CW.region ?_
            refine LW.pure rfl rfl (RV.move rfl) ?_
            refine LW.pure rfl rfl (RV.fieldAddr Tf52_0 rfl) ?_
            refine LW.pure rfl rfl (RV.load1 Tk3 rfl ((H.blk 0 rfl).cells.off 0) rfl) ?_
            refine LW.go rfl rfl (OW.call Tc65 rfl (slices_Contains_int_ok (a0 := a1) (a1 := x1.from_) (h_a1.ext R0) hr1) ?_)
            rintro _ w6 ⟨rfl, E3⟩
            refine ⟨_, rfl, ?_⟩
            replace H := H.grow E3
            replace R0 := H.ext
            refine LW.pure rfl rfl (RV.move rfl) ?_
            refine LW.noB rfl rfl rfl rfl (ne_beq (v := false) hq3 rfl) ?_
            refine LW.noB rfl rfl rfl rfl (ne_beq (v := false) hq3 rfl) ?_
            refine LW.noB rfl rfl rfl rfl (ne_beq (v := false) hq3 rfl) ?_
            refine LW.noB rfl rfl rfl rfl (ne_beq (v := false) hq3 rfl) ?_
            refine LW.noB rfl rfl rfl rfl (ne_beq (v := false) hq3 rfl) ?_
            refine LW.pure rfl rfl (RV.pickFB rfl hq3 rfl) ?_
            refine LW.nil (jK96 _ _ ⟨_, ?_, ⟨false, F, rfl, H⟩⟩)
            exact ⟨rfl, rfl, rfl, rfl, rfl, rfl, rfl, rfl, trivial⟩
    ·
      replace F := ite_n hp1 F
      have hq1 := dec_f hp1
      refine CW.condF rfl hq1 ?_
      refine CW.exit (jK74 _ _ ⟨_, ?_, ⟨t5_3, F, rfl, H⟩⟩)
      exact ⟨rfl, rfl, trivial⟩
set_option maxRecDepth 20000 in
set_option maxHeartbeats 1000000 in
theorem drain_Across_ok {a0 : Net} {a1 : List Int} {A_a0_drains : Option Addr} {c_a0_drains : Nat} {A_a1 : Option Addr} {c_a1 : Nat} {w : World} {res : Int × Int} (h_a0_drains : Sl w A_a0_drains c_a0_drains 3 (a0.drains.map encDrain)) (h_a1 : Sl w A_a1 c_a1 1 (a1.map encN)) (F : drain_Across a0 a1 = some res) : Calls Try.prog 28 #[.agg #[.int .i64 a0.nodes, .int .i64 a0.from_, .int .i64 a0.to_, .slice A_a0_drains a0.drains.length c_a0_drains], .slice A_a1 a1.length c_a1] w (Rt w (.tuple #[.int .i64 res.1, .int .i64 res.2])) := by
  refine calls_of_cw (args := [.agg #[.int .i64 a0.nodes, .int .i64 a0.from_, .int .i64 a0.to_, .slice A_a0_drains a0.drains.length c_a0_drains], .slice A_a1 a1.length c_a1]) Try.func28 rfl rfl rfl rfl ?_
  have H := Hp.start w
  have R0 := H.ext
  unfold drain_Across at F
  refine CW.seq fun K1 hK1 => ?_
  refine CW.region ?_
  refine LW.go rfl rfl (OW.box rfl fun b1 w1 N1 => ?_)
  replace H := H.new N1 N1.blk
  replace R0 := H.ext
  refine LW.pure rfl rfl (RV.assign rfl) ?_
  refine LW.pure rfl rfl (RV.assign rfl) ?_
  refine LW.nil (hK1 _ _ ?_)
  refine CW.seq fun K2 hK2 => ?_
  refine CW.seq fun K3 hK3 => ?_
  obtain ⟨r5, hr5, F⟩ := bnd_some F
  refine CW.region ?_
  refine LW.pure rfl rfl (RV.loadA [.int .i64 a0.nodes, .int .i64 a0.from_, .int .i64 a0.to_, .slice A_a0_drains a0.drains.length c_a0_drains] Tk24 rfl (H.blk 0 rfl).cells rfl rfl) ?_
  refine LW.go rfl rfl (OW.call Tc26 rfl (drain_Validate_ok (a0 := a0) (h_a0_drains.ext R0) hr5) ?_)
  rintro _ w2 ⟨rfl, E1⟩
  refine ⟨_, rfl, ?_⟩
  replace H := H.grow E1
  replace R0 := H.ext
  refine LW.pure rfl rfl (RV.assign rfl) ?_
  refine LW.nil (hK3 _ _ ?_)
  refine CW.seq fun K4 hK4 => ?_
  refine CW.region ?_
  refine LW.pure rfl rfl (RV.move rfl) ?_
  refine LW.pure rfl rfl (RV.nei rfl rfl) ?_
  refine LW.nil (hK4 _ _ ?_)
  by_cases hp1 : r5 = 0
  ·
    replace F := ite_y hp1 F
    have hq1 := dec_t hp1
    refine CW.condF rfl (not_f hq1) ?_
    refine CW.skip (hK2 _ _ ?_)
    refine CW.seqJ (fun ρ wl1 => (drain_Across_k2 a0 a1 = some res ∧ ρ = [(1, .slice A_a1 a1.length c_a1), (2, .pointer (some (⟨b1, 0, none⟩))), (4, .int .i64 0), (5, .int .i64 0)] ∧ Hp w wl1 [.blk b1 24 [.int .i64 a0.nodes, .int .i64 a0.from_, .int .i64 a0.to_, .slice A_a0_drains a0.drains.length c_a0_drains]])) ?_ ?_
    ·
      rintro _ wl1 ⟨F, rfl, H⟩
      have R0 := H.ext
      unfold drain_Across_k2 at F
      refine CW.seq fun K5 hK5 => ?_
      refine CW.seqJ (fun ρ wl2 => (∃ (t49_1 : Bool), drain_Across_k1 a0 a1 t49_1 = some res ∧ ρ = [(1, .slice A_a1 a1.length c_a1), (2, .pointer (some (⟨b1, 0, none⟩))), (4, .int .i64 0), (5, .int .i64 0), (49, .bool t49_1)] ∧ Hp w wl2 [.blk b1 24 [.int .i64 a0.nodes, .int .i64 a0.from_, .int .i64 a0.to_, .slice A_a0_drains a0.drains.length c_a0_drains]])) ?_ ?_
      ·
        rintro _ wl2 ⟨t49_1, F, rfl, H⟩
        have R0 := H.ext
        unfold drain_Across_k1 at F
        by_cases hp2 : t49_1 = true
        ·
          replace F := ite_y hp2 F
          have hq2 : t49_1 = true := hp2
          refine CW.condT rfl hq2 ?_
          refine CW.seq fun K6 hK6 => ?_
          refine CW.region ?_
          refine LW.pure rfl rfl (RV.assign rfl) ?_
          refine LW.pure rfl rfl (RV.assign rfl) ?_
          refine LW.nil (hK6 _ _ ?_)
          refine CW.ret ?_
          obtain rfl := Option.some.inj F
          refine ⟨_, (ResOK.two rfl rfl), ?_⟩
          refine ⟨(by first | rfl | simp), R0⟩
        ·
          replace F := ite_n hp2 F
          have hq2 : t49_1 = false := raw_f hp2
          refine CW.condF rfl hq2 ?_
          refine CW.skip (hK5 _ _ ?_)
          refine CW.seq fun K7 hK7 => ?_
          obtain ⟨r1, hr1, F⟩ := bnd_some F
          refine CW.region ?_
          refine LW.pure rfl rfl (RV.loadA [.int .i64 a0.nodes, .int .i64 a0.from_, .int .i64 a0.to_, .slice A_a0_drains a0.drains.length c_a0_drains] Tk24 rfl (H.blk 0 rfl).cells rfl rfl) ?_
          refine LW.pure rfl rfl (RV.move rfl) ?_
          refine LW.go rfl rfl (OW.call Tc66 rfl (drain_across_ok (a0 := a0) (a1 := a1) (h_a0_drains.ext R0) (h_a1.ext R0) hr1) ?_)
          rintro _ w3 ⟨rfl, E2⟩
          refine ⟨_, rfl, ?_⟩
          replace H := H.grow E2
          replace R0 := H.ext
          refine LW.pure rfl rfl (RV.assign rfl) ?_
          refine LW.pure rfl rfl (RV.assign rfl) ?_
          refine LW.nil (hK7 _ _ ?_)
          refine CW.ret ?_
          obtain rfl := Option.some.inj F
          refine ⟨_, (ResOK.two rfl rfl), ?_⟩
          refine ⟨(by first | rfl | simp), R0⟩
      ·
        intro K8 hK8 jK75
        obtain ⟨r2, hr2, F⟩ := bnd_some F
        by_cases hp3 : r2 = true
        ·
          replace F := ite_y hp3 F
          have hq3 : r2 = true := hp3
          obtain ⟨r3, hr3, F⟩ := bnd_some F
          refine CW.region ?_
          refine LW.pure rfl rfl (RV.move rfl) ?_
          refine LW.pure rfl rfl (RV.fieldAddr Tf24_1 rfl) ?_
          refine LW.pure rfl rfl (RV.load1 Tk3 rfl ((H.blk 0 rfl).cells.off 1) rfl) ?_
          refine LW.go rfl rfl (OW.call Tc65 rfl (slices_Contains_int_ok (a0 := a1) (a1 := a0.from_) (h_a1.ext R0) hr2) ?_)
          rintro _ w4 ⟨rfl, E3⟩
          refine ⟨_, rfl, ?_⟩
          replace H := H.grow E3
          replace R0 := H.ext
          refine LW.pure rfl rfl (RV.not rfl) ?_
          refine LW.pure rfl rfl (RV.move rfl) ?_
          refine LW.pureYB rfl rfl rfl rfl (not_f hq3) (RV.move rfl) ?_
          refine LW.pureYB rfl rfl rfl rfl (not_f hq3) (RV.fieldAddr Tf24_2 rfl) ?_
          refine LW.pureYB rfl rfl rfl rfl (not_f hq3) (RV.load1 Tk3 rfl ((H.blk 0 rfl).cells.off 2) rfl) ?_
          refine LW.yesB rfl rfl rfl rfl (not_f hq3) (OW.call Tc65 rfl (slices_Contains_int_ok (a0 := a1) (a1 := a0.to_) (h_a1.ext R0) hr3) ?_)
          rintro _ w5 ⟨rfl, E4⟩
          refine ⟨_, rfl, ?_⟩
          replace H := H.grow E4
          replace R0 := H.ext
          refine LW.pure rfl rfl (RV.pickFB rfl (not_f hq3) rfl) ?_
          refine LW.nil (jK75 _ _ ⟨_, ?_, ⟨r3, F, rfl, H⟩⟩)
          exact ⟨rfl, rfl, rfl, rfl, rfl, trivial⟩
        ·
          replace F := ite_n hp3 F
          have hq3 : r2 = false := raw_f hp3
          refine CW.region ?_
          refine LW.pure rfl rfl (RV.move rfl) ?_
          refine LW.pure rfl rfl (RV.fieldAddr Tf24_1 rfl) ?_
          refine LW.pure rfl rfl (RV.load1 Tk3 rfl ((H.blk 0 rfl).cells.off 1) rfl) ?_
          refine LW.go rfl rfl (OW.call Tc65 rfl (slices_Contains_int_ok (a0 := a1) (a1 := a0.from_) (h_a1.ext R0) hr2) ?_)
          rintro _ w6 ⟨rfl, E5⟩
          refine ⟨_, rfl, ?_⟩
          replace H := H.grow E5
          replace R0 := H.ext
          refine LW.pure rfl rfl (RV.not rfl) ?_
          refine LW.pure rfl rfl (RV.move rfl) ?_
          refine LW.noB rfl rfl rfl rfl (ne_beq (v := true) (not_t hq3) rfl) ?_
          refine LW.noB rfl rfl rfl rfl (ne_beq (v := true) (not_t hq3) rfl) ?_
          refine LW.noB rfl rfl rfl rfl (ne_beq (v := true) (not_t hq3) rfl) ?_
          refine LW.noB rfl rfl rfl rfl (ne_beq (v := true) (not_t hq3) rfl) ?_
          refine LW.pure rfl rfl (RV.pickTB rfl (not_t hq3) rfl) ?_
          refine LW.nil (jK75 _ _ ⟨_, ?_, ⟨true, F, rfl, H⟩⟩)
          exact ⟨rfl, rfl, rfl, rfl, rfl, trivial⟩
    ·
      intro K9 hK9 jK76
      refine CW.seq fun K10 hK10 => ?_
      refine CW.region ?_
      refine LW.pure rfl rfl (RV.move rfl) ?_
      refine LW.pure rfl rfl (RV.len Ts30 rfl) ?_
      refine LW.pure rfl rfl (RV.move rfl) ?_
      refine LW.nil (hK10 _ _ ?_)
      refine CW.block ?_
      refine CW.loop (fun meas ρ wl3 => ∃ (t16_1 : Int), drain_Across_L1 a0 a1 meas t16_1 = some res ∧ ρ = [(1, .slice A_a1 a1.length c_a1), (2, .pointer (some (⟨b1, 0, none⟩))), (4, .int .i64 0), (5, .int .i64 0), (14, .slice A_a1 a1.length c_a1), (15, .int .i64 ((a1.length : Int))), (16, .int .i64 t16_1)] ∧ Hp w wl3 [.blk b1 24 [.int .i64 a0.nodes, .int .i64 a0.from_, .int .i64 a0.to_, .slice A_a0_drains a0.drains.length c_a0_drains]]) FU ⟨_, ?_, ((0 : Int)), F, rfl, H⟩ ?_
      · exact ⟨rfl, rfl, rfl, rfl, rfl, rfl, rfl, trivial⟩
      rintro mk1 _ wl3 ⟨t16_1, F, rfl, H⟩
      have R0 := H.ext
      replace F := drain_Across_L1_s F
      obtain ⟨mk1, rfl, F⟩ := F
      generalize hrec1 : drain_Across_L1 a0 a1 mk1 = rec1 at F
      unfold drain_Across_B1 at F
      refine CW.seq fun K11 hK11 => ?_
      refine CW.region ?_
      refine LW.pure rfl rfl (RV.lss rfl rfl) ?_
      refine LW.nil (hK11 _ _ ?_)
      refine CW.seq fun K12 hK12 => ?_
      by_cases hp4 : t16_1 < ((a1.length : Int))
      ·
        replace F := ite_y hp4 F
        have hq4 := dec_t hp4
        refine CW.condT rfl hq4 ?_
        refine CW.skip (hK12 _ _ ?_)
        refine CW.seq fun K13 hK13 => ?_
        refine CW.block ?_
        refine CW.seq fun K14 hK14 => ?_
        obtain ⟨x1, hbx1, hx1, F⟩ := ix_some F
        refine CW.region ?_
        refine LW.pure rfl rfl (RV.move rfl) ?_
        refine LW.pure rfl rfl (RV.indexAddr Ts30 rfl rfl hbx1 (h_a1.addr_ hx1)) ?_
        refine LW.pure rfl rfl (RV.load1 Tk3 rfl ((h_a1.at_ hx1).ext R0) rfl) ?_
        refine LW.pure rfl rfl (RV.assign rfl) ?_
        refine LW.pure rfl rfl (RV.assign rfl) ?_
        refine LW.nil (hK14 _ _ ?_)
        refine CW.seqJ (fun ρ wl4 => (∃ (t37_1 : Bool), drain_Across_k3 t16_1 rec1 t37_1 = some res ∧ ρ = [(1, .slice A_a1 a1.length c_a1), (2, .pointer (some (⟨b1, 0, none⟩))), (4, .int .i64 0), (5, .int .i64 0), (14, .slice A_a1 a1.length c_a1), (15, .int .i64 ((a1.length : Int))), (16, .int .i64 t16_1), (37, .bool t37_1)] ∧ Hp w wl4 [.blk b1 24 [.int .i64 a0.nodes, .int .i64 a0.from_, .int .i64 a0.to_, .slice A_a0_drains a0.drains.length c_a0_drains]])) ?_ ?_
        ·
          rintro _ wl4 ⟨t37_1, F, rfl, H⟩
          have R0 := H.ext
          unfold drain_Across_k3 at F
          by_cases hp5 : t37_1 = true
          ·
            replace F := ite_y hp5 F
            have hq5 : t37_1 = true := hp5
            refine CW.condT rfl hq5 ?_
            refine CW.seq fun K15 hK15 => ?_
            refine CW.region ?_
            refine LW.pure rfl rfl (RV.assign rfl) ?_
            refine LW.pure rfl rfl (RV.assign rfl) ?_
            refine LW.nil (hK15 _ _ ?_)
            refine CW.ret ?_
            obtain rfl := Option.some.inj F
            refine ⟨_, (ResOK.two rfl rfl), ?_⟩
            refine ⟨(by first | rfl | simp), R0⟩
          ·
            replace F := ite_n hp5 F
            have hq5 : t37_1 = false := raw_f hp5
            refine CW.condF rfl hq5 ?_
            refine CW.skip (hK13 _ _ ?_)
            obtain ⟨hg1, F⟩ := gd_some F
            refine CW.region ?_
            refine LW.pure rfl rfl (RV.add rfl rfl hg1) ?_
            refine LW.pure rfl rfl (RV.move rfl) ?_
            refine LW.nil ?_
            subst hrec1
            refine ⟨mk1, Nat.lt_succ_self _, _, ?_, (t16_1 + 1), F, rfl, H⟩
            exact ⟨rfl, rfl, rfl, rfl, rfl, rfl, rfl, trivial⟩
        ·
          intro K16 hK16 jK95
          obtain ⟨r4, hr4, F⟩ := bnd_some F
          by_cases hp6 : r4 = true
          ·
            replace F := ite_y hp6 F
            have hq6 : r4 = true := hp6
            by_cases hp7 : (0 : Int) < t16_1
            ·
              replace F := ite_y hp7 F
              have hq7 := dec_t hp7
              obtain ⟨hg2, F⟩ := gd_some F
              obtain ⟨x2, hbx2, hx2, F⟩ := ix_some F
              refine CW.region ?_
              refine LW.pure rfl rfl (RV.loadA [.int .i64 a0.nodes, .int .i64 a0.from_, .int .i64 a0.to_, .slice A_a0_drains a0.drains.length c_a0_drains] Tk24 rfl (H.blk 0 rfl).cells rfl rfl) ?_
              refine LW.pure rfl rfl (RV.move rfl) ?_
              refine LW.go rfl rfl (OW.call Tc64 rfl (drain_isNode_ok (a0 := a0) (a1 := x1) (h_a0_drains.ext R0) hr4) ?_)
              rintro _ w7 ⟨rfl, E6⟩
              refine ⟨_, rfl, ?_⟩
              replace H := H.grow E6
              replace R0 := H.ext
              refine LW.pure rfl rfl (RV.not rfl) ?_
              refine LW.pure rfl rfl (RV.move rfl) ?_
              refine LW.pureYB rfl rfl rfl rfl (not_f hq6) (RV.move rfl) ?_
              refine LW.pureYB rfl rfl rfl rfl (not_f hq6) (RV.gtr rfl rfl) ?_
              refine LW.pureYB rfl rfl rfl rfl (not_f hq6) (RV.move rfl) ?_
              refine LW.pureYB rfl rfl rfl rfl hq7 (RV.move rfl) ?_
              refine LW.pureYB rfl rfl rfl rfl hq7 (RV.move rfl) ?_
              refine LW.pureYB rfl rfl rfl rfl hq7 (RV.sub rfl rfl hg2) ?_
              refine LW.pureYB rfl rfl rfl rfl hq7 (RV.indexAddr Ts30 rfl rfl hbx2 (h_a1.addr_ hx2)) ?_
              refine LW.pureYB rfl rfl rfl rfl hq7 (RV.load1 Tk3 rfl ((h_a1.at_ hx2).ext R0) rfl) ?_
              refine LW.pureYB rfl rfl rfl rfl hq7 (RV.move rfl) ?_
              refine LW.pureYB rfl rfl rfl rfl hq7 (RV.geq rfl rfl) ?_
              refine LW.pureYB rfl rfl rfl rfl (not_f hq6) (RV.pickTB rfl hq7 rfl) ?_
              refine LW.pure rfl rfl (RV.pickFB rfl (not_f hq6) rfl) ?_
              refine LW.nil (jK95 _ _ ⟨_, ?_, ⟨(decide (x1 ≤ x2)), F, rfl, H⟩⟩)
              exact ⟨rfl, rfl, rfl, rfl, rfl, rfl, rfl, rfl, trivial⟩
            ·
              replace F := ite_n hp7 F
              have hq7 := dec_f hp7
              refine CW.region ?_
              refine LW.pure rfl rfl (RV.loadA [.int .i64 a0.nodes, .int .i64 a0.from_, .int .i64 a0.to_, .slice A_a0_drains a0.drains.length c_a0_drains] Tk24 rfl (H.blk 0 rfl).cells rfl rfl) ?_
              refine LW.pure rfl rfl (RV.move rfl) ?_
              refine LW.go rfl rfl (OW.call Tc64 rfl (drain_isNode_ok (a0 := a0) (a1 := x1) (h_a0_drains.ext R0) hr4) ?_)
              rintro _ w8 ⟨rfl, E7⟩
              refine ⟨_, rfl, ?_⟩
              replace H := H.grow E7
              replace R0 := H.ext
              refine LW.pure rfl rfl (RV.not rfl) ?_
              refine LW.pure rfl rfl (RV.move rfl) ?_
              refine LW.pureYB rfl rfl rfl rfl (not_f hq6) (RV.move rfl) ?_
              refine LW.pureYB rfl rfl rfl rfl (not_f hq6) (RV.gtr rfl rfl) ?_
              refine LW.pureYB rfl rfl rfl rfl (not_f hq6) (RV.move rfl) ?_
              refine LW.noB rfl rfl rfl rfl (ne_beq (v := false) hq7 rfl) ?_
              refine LW.noB rfl rfl rfl rfl (ne_beq (v := false) hq7 rfl) ?_
              refine LW.noB rfl rfl rfl rfl (ne_beq (v := false) hq7 rfl) ?_
              refine LW.noB rfl rfl rfl rfl (ne_beq (v := false) hq7 rfl) ?_
              refine LW.noB rfl rfl rfl rfl (ne_beq (v := false) hq7 rfl) ?_
              refine LW.noB rfl rfl rfl rfl (ne_beq (v := false) hq7 rfl) ?_
              refine LW.noB rfl rfl rfl rfl (ne_beq (v := false) hq7 rfl) ?_
              refine LW.pureYB rfl rfl rfl rfl (not_f hq6) (RV.pickFB rfl hq7 rfl) ?_
              refine LW.pure rfl rfl (RV.pickFB rfl (not_f hq6) rfl) ?_
              refine LW.nil (jK95 _ _ ⟨_, ?_, ⟨false, F, rfl, H⟩⟩)
              exact ⟨rfl, rfl, rfl, rfl, rfl, rfl, rfl, rfl, trivial⟩
          ·
            replace F := ite_n hp6 F
            have hq6 : r4 = false := raw_f hp6
            refine CW.region ?_
            refine LW.pure rfl rfl (RV.loadA [.int .i64 a0.nodes, .int .i64 a0.from_, .int .i64 a0.to_, .slice A_a0_drains a0.drains.length c_a0_drains] Tk24 rfl (H.blk 0 rfl).cells rfl rfl) ?_
            refine LW.pure rfl rfl (RV.move rfl) ?_
            refine LW.go rfl rfl (OW.call Tc64 rfl (drain_isNode_ok (a0 := a0) (a1 := x1) (h_a0_drains.ext R0) hr4) ?_)
            rintro _ w9 ⟨rfl, E8⟩
            refine ⟨_, rfl, ?_⟩
            replace H := H.grow E8
            replace R0 := H.ext
            refine LW.pure rfl rfl (RV.not rfl) ?_
            refine LW.pure rfl rfl (RV.move rfl) ?_
            refine LW.noB rfl rfl rfl rfl (ne_beq (v := true) (not_t hq6) rfl) ?_
            refine LW.noB rfl rfl rfl rfl (ne_beq (v := true) (not_t hq6) rfl) ?_
            refine LW.noB rfl rfl rfl rfl (ne_beq (v := true) (not_t hq6) rfl) ?_
            refine LW.noU rfl rfl rfl rfl ?_
            refine LW.noU rfl rfl rfl rfl ?_
            refine LW.noU rfl rfl rfl rfl ?_
            refine LW.noU rfl rfl rfl rfl ?_
            refine LW.noU rfl rfl rfl rfl ?_
            refine LW.noU rfl rfl rfl rfl ?_
            refine LW.noU rfl rfl rfl rfl ?_
            refine LW.noB rfl rfl rfl rfl (ne_beq (v := true) (not_t hq6) rfl) ?_
            refine LW.pure rfl rfl (RV.pickTB rfl (not_t hq6) rfl) ?_
            refine LW.nil (jK95 _ _ ⟨_, ?_, ⟨true, F, rfl, H⟩⟩)
            exact ⟨rfl, rfl, rfl, rfl, rfl, rfl, rfl, rfl, trivial⟩
      ·
        replace F := ite_n hp4 F
        have hq4 := dec_f hp4
        refine CW.condF rfl hq4 ?_
        refine CW.exit (jK76 _ _ ⟨_, ?_, ⟨F, rfl, H⟩⟩)
        exact ⟨rfl, rfl, rfl, rfl, trivial⟩
  ·
    replace F := ite_n hp1 F
    have hq1 := dec_f hp1
    refine CW.condT rfl (not_t hq1) ?_
    refine CW.seq fun K17 hK17 => ?_
    refine CW.region ?_
    refine LW.pure rfl rfl (RV.move rfl) ?_
    refine LW.pure rfl rfl (RV.assign rfl) ?_
    refine LW.pure rfl rfl (RV.assign rfl) ?_
    refine LW.nil (hK17 _ _ ?_)
    refine CW.ret ?_
    obtain rfl := Option.some.inj F
    refine ⟨_, (ResOK.two rfl rfl), ?_⟩
    refine ⟨(by first | rfl | simp), R0⟩
end Go.D2

set_option linter.unusedVariables false
set_option linter.unusedSimpArgs false
namespace Go.D2
open Go.Tb Go.Proofs Go.RowKit
theorem Tc18 : callable Try.prog 18 = true := by kernel_rfl
theorem Tc28 : callable Try.prog 28 = true := by kernel_rfl
theorem Tc55 : callable Try.prog 55 = true := by kernel_rfl
theorem Tc60 : callable Try.prog 60 = true := by kernel_rfl
set_option maxRecDepth 20000 in
set_option maxHeartbeats 1000000 in
theorem law02_known_ok {w : World} {res : Bool} (F : law02_known = some res) : Calls Try.prog 17 #[] w (Rt w (.bool res)) := by
  refine calls_of_cw (args := []) Try.func17 rfl rfl rfl rfl ?_
  have H := Hp.start w
  have R0 := H.ext
  unfold law02_known at F
  refine CW.seq fun K1 hK1 => ?_
  refine CW.region ?_
  refine LW.pure rfl rfl (RV.assign rfl) ?_
  refine LW.nil (hK1 _ _ ?_)
  refine CW.seq fun K2 hK2 => ?_
  obtain ⟨r1, hr1, F⟩ := bnd_some F
  obtain ⟨r2, hr2, F⟩ := bnd_some F
  refine CW.region ?_
  refine LW.go rfl rfl (OW.call Tc55 rfl (law02_example_ok hr1) ?_)
  rintro _ w1 ⟨A7_0_drains, c7_0_drains, rfl, E1⟩
  refine ⟨_, rfl, ?_⟩
  replace H : Hp w w1 [.own A7_0_drains c7_0_drains 52 3 (List.map encDrain r1.drains)] := H.append E1
  replace R0 := H.ext
  refine LW.go rfl rfl (OW.call Tc18 rfl (drain_Most_ok (a0 := r1) (H.own 0 rfl).sl hr2) ?_)
  rintro _ w2 ⟨rfl, E2⟩
  refine ⟨_, rfl, ?_⟩
  replace H := H.grow E2
  replace R0 := H.ext
  refine LW.pure rfl rfl (RV.move rfl) ?_
  refine LW.pure rfl rfl (RV.extract rfl rfl) ?_
  refine LW.pure rfl rfl (RV.extract rfl rfl) ?_
  refine LW.pure rfl rfl (RV.assign rfl) ?_
  refine LW.pure rfl rfl (RV.assign rfl) ?_
  refine LW.nil (hK2 _ _ ?_)
  refine CW.seq fun K3 hK3 => ?_
  obtain ⟨r3, hr3, F⟩ := bnd_some F
  obtain ⟨r4, hr4, F⟩ := bnd_some F
  refine CW.region ?_
  refine LW.go rfl rfl (OW.call Tc55 rfl (law02_example_ok hr3) ?_)
  rintro _ w3 ⟨A11_0_drains, c11_0_drains, rfl, E3⟩
  refine ⟨_, rfl, ?_⟩
  replace H : Hp w w3 [.own A11_0_drains c11_0_drains 52 3 (List.map encDrain r3.drains), .own A7_0_drains c7_0_drains 52 3 (List.map encDrain r1.drains)] := H.append E3
  replace R0 := H.ext
  refine LW.go rfl rfl (OW.buildSlice (e := 3) (vs := [.int .i64 0]) (cs := [.int .i64 0]) rfl (fun _ => by kernel_rfl) fun b1 w4 N1 => ?_)
  replace H := H.made' (k := 1) (t := 3) (enc := encN) (l := ([0] : List Int)) N1 N1.blk (fun _ => rfl) rfl (by first | decide | omega | (simp; done) | (simp; omega))
  replace R0 := H.ext
  refine LW.go rfl rfl (OW.call Tc28 (evs_cast rfl (by first | rfl | (simp; done) | (simp; omega))) (drain_Across_ok (a0 := r3) (a1 := ([0] : List Int)) (H.own 1 rfl).sl (H.own 0 rfl).sl hr4) ?_)
  rintro _ w5 ⟨rfl, E4⟩
  refine ⟨_, rfl, ?_⟩
  replace H := H.grow E4
  replace R0 := H.ext
  refine LW.pure rfl rfl (RV.move rfl) ?_
  refine LW.pure rfl rfl (RV.extract rfl rfl) ?_
  refine LW.pure rfl rfl (RV.extract rfl rfl) ?_
  refine LW.pure rfl rfl (RV.assign rfl) ?_
  refine LW.pure rfl rfl (RV.assign rfl) ?_
  refine LW.nil (hK3 _ _ ?_)
  refine CW.seq fun K4 hK4 => ?_
  by_cases hp1 : r2.2 = 0
  ·
    replace F := ite_y hp1 F
    have hq1 := dec_t hp1
    by_cases hp2 : r2.1 = 5
    ·
      replace F := ite_y hp2 F
      have hq2 := dec_t hp2
      by_cases hp3 : r4.2 = 0
      ·
        replace F := ite_y hp3 F
        have hq3 := dec_t hp3
        refine CW.region ?_
        refine LW.pure rfl rfl (RV.move rfl) ?_
        refine LW.pure rfl rfl (RV.eqi rfl rfl) ?_
        refine LW.pure rfl rfl (RV.move rfl) ?_
        refine LW.pureYB rfl rfl rfl rfl hq1 (RV.move rfl) ?_
        refine LW.pureYB rfl rfl rfl rfl hq1 (RV.eqi rfl rfl) ?_
        refine LW.pure rfl rfl (RV.pickTB rfl hq1 rfl) ?_
        refine LW.pure rfl rfl (RV.move rfl) ?_
        refine LW.pureYB rfl rfl rfl rfl hq2 (RV.move rfl) ?_
        refine LW.pureYB rfl rfl rfl rfl hq2 (RV.eqi rfl rfl) ?_
        refine LW.pure rfl rfl (RV.pickTB rfl hq2 rfl) ?_
        refine LW.pure rfl rfl (RV.move rfl) ?_
        refine LW.pureYB rfl rfl rfl rfl hq3 (RV.move rfl) ?_
        refine LW.pureYB rfl rfl rfl rfl hq3 (RV.eqi rfl rfl) ?_
        refine LW.pure rfl rfl (RV.pickTB rfl hq3 rfl) ?_
        refine LW.pure rfl rfl (RV.assign rfl) ?_
        refine LW.nil (hK4 _ _ ?_)
        refine CW.ret ?_
        obtain rfl := Option.some.inj F
        refine ⟨_, (ResOK.one rfl), ?_⟩
        refine ⟨(by first | rfl | simp), R0⟩
      ·
        replace F := ite_n hp3 F
        have hq3 := dec_f hp3
        refine CW.region ?_
        refine LW.pure rfl rfl (RV.move rfl) ?_
        refine LW.pure rfl rfl (RV.eqi rfl rfl) ?_
        refine LW.pure rfl rfl (RV.move rfl) ?_
        refine LW.pureYB rfl rfl rfl rfl hq1 (RV.move rfl) ?_
        refine LW.pureYB rfl rfl rfl rfl hq1 (RV.eqi rfl rfl) ?_
        refine LW.pure rfl rfl (RV.pickTB rfl hq1 rfl) ?_
        refine LW.pure rfl rfl (RV.move rfl) ?_
        refine LW.pureYB rfl rfl rfl rfl hq2 (RV.move rfl) ?_
        refine LW.pureYB rfl rfl rfl rfl hq2 (RV.eqi rfl rfl) ?_
        refine LW.pure rfl rfl (RV.pickTB rfl hq2 rfl) ?_
        refine LW.pure rfl rfl (RV.move rfl) ?_
        refine LW.noB rfl rfl rfl rfl (ne_beq (v := false) hq3 rfl) ?_
        refine LW.noB rfl rfl rfl rfl (ne_beq (v := false) hq3 rfl) ?_
        refine LW.pure rfl rfl (RV.pickFB rfl hq3 rfl) ?_
        refine LW.pure rfl rfl (RV.assign rfl) ?_
        refine LW.nil (hK4 _ _ ?_)
        refine CW.ret ?_
        obtain rfl := Option.some.inj F
        refine ⟨_, (ResOK.one rfl), ?_⟩
        refine ⟨(by first | rfl | simp), R0⟩
    ·
      replace F := ite_n hp2 F
      have hq2 := dec_f hp2
      refine CW.region ?_
      refine LW.pure rfl rfl (RV.move rfl) ?_
      refine LW.pure rfl rfl (RV.eqi rfl rfl) ?_
      refine LW.pure rfl rfl (RV.move rfl) ?_
      refine LW.pureYB rfl rfl rfl rfl hq1 (RV.move rfl) ?_
      refine LW.pureYB rfl rfl rfl rfl hq1 (RV.eqi rfl rfl) ?_
      refine LW.pure rfl rfl (RV.pickTB rfl hq1 rfl) ?_
      refine LW.pure rfl rfl (RV.move rfl) ?_
      refine LW.noB rfl rfl rfl rfl (ne_beq (v := false) hq2 rfl) ?_
      refine LW.noB rfl rfl rfl rfl (ne_beq (v := false) hq2 rfl) ?_
      refine LW.pure rfl rfl (RV.pickFB rfl hq2 rfl) ?_
      refine LW.pure rfl rfl (RV.move rfl) ?_
      refine LW.noB rfl rfl rfl rfl (ne_beq (v := false) rfl rfl) ?_
      refine LW.noB rfl rfl rfl rfl (ne_beq (v := false) rfl rfl) ?_
      refine LW.pure rfl rfl (RV.pickFB rfl rfl rfl) ?_
      refine LW.pure rfl rfl (RV.assign rfl) ?_
      refine LW.nil (hK4 _ _ ?_)
      refine CW.ret ?_
      obtain rfl := Option.some.inj F
      refine ⟨_, (ResOK.one rfl), ?_⟩
      refine ⟨(by first | rfl | simp), R0⟩
  ·
    replace F := ite_n hp1 F
    have hq1 := dec_f hp1
    refine CW.region ?_
    refine LW.pure rfl rfl (RV.move rfl) ?_
    refine LW.pure rfl rfl (RV.eqi rfl rfl) ?_
    refine LW.pure rfl rfl (RV.move rfl) ?_
    refine LW.noB rfl rfl rfl rfl (ne_beq (v := false) hq1 rfl) ?_
    refine LW.noB rfl rfl rfl rfl (ne_beq (v := false) hq1 rfl) ?_
    refine LW.pure rfl rfl (RV.pickFB rfl hq1 rfl) ?_
    refine LW.pure rfl rfl (RV.move rfl) ?_
    refine LW.noB rfl rfl rfl rfl (ne_beq (v := false) rfl rfl) ?_
    refine LW.noB rfl rfl rfl rfl (ne_beq (v := false) rfl rfl) ?_
    refine LW.pure rfl rfl (RV.pickFB rfl rfl rfl) ?_
    refine LW.pure rfl rfl (RV.move rfl) ?_
    refine LW.noB rfl rfl rfl rfl (ne_beq (v := false) rfl rfl) ?_
    refine LW.noB rfl rfl rfl rfl (ne_beq (v := false) rfl rfl) ?_
    refine LW.pure rfl rfl (RV.pickFB rfl rfl rfl) ?_
    refine LW.pure rfl rfl (RV.assign rfl) ?_
    refine LW.nil (hK4 _ _ ?_)
    refine CW.ret ?_
    obtain rfl := Option.some.inj F
    refine ⟨_, (ResOK.one rfl), ?_⟩
    refine ⟨(by first | rfl | simp), R0⟩
set_option maxRecDepth 20000 in
set_option maxHeartbeats 1000000 in
theorem ref02_within_ok {a0 : Int} {a1 : Int} {a2 : Int} {w : World} {res : Bool} (F : ref02_within a0 a1 a2 = some res) : Calls Try.prog 60 #[.int .i64 a0, .int .i64 a1, .int .i64 a2] w (Rt w (.bool res)) := by
  refine calls_of_cw (args := [.int .i64 a0, .int .i64 a1, .int .i64 a2]) Try.func60 rfl rfl rfl rfl ?_
  have H := Hp.start w
  have R0 := H.ext
  unfold ref02_within at F
  refine CW.seq fun K1 hK1 => ?_
  refine CW.region ?_
  refine LW.pure rfl rfl (RV.assign rfl) ?_
  refine LW.nil (hK1 _ _ ?_)
  refine CW.seq fun K2 hK2 => ?_
  by_cases hp1 : a1 ≤ a0
  ·
    replace F := ite_y hp1 F
    have hq1 := dec_t hp1
    refine CW.region ?_
    refine LW.pure rfl rfl (RV.move rfl) ?_
    refine LW.pure rfl rfl (RV.move rfl) ?_
    refine LW.pure rfl rfl (RV.geq rfl rfl) ?_
    refine LW.pure rfl rfl (RV.move rfl) ?_
    refine LW.pureYB rfl rfl rfl rfl hq1 (RV.move rfl) ?_
    refine LW.pureYB rfl rfl rfl rfl hq1 (RV.move rfl) ?_
    refine LW.pureYB rfl rfl rfl rfl hq1 (RV.leq rfl rfl) ?_
    refine LW.pure rfl rfl (RV.pickTB rfl hq1 rfl) ?_
    refine LW.pure rfl rfl (RV.assign rfl) ?_
    refine LW.nil (hK2 _ _ ?_)
    refine CW.ret ?_
    obtain rfl := Option.some.inj F
    refine ⟨_, (ResOK.one rfl), ?_⟩
    refine ⟨(by first | rfl | simp), R0⟩
  ·
    replace F := ite_n hp1 F
    have hq1 := dec_f hp1
    refine CW.region ?_
    refine LW.pure rfl rfl (RV.move rfl) ?_
    refine LW.pure rfl rfl (RV.move rfl) ?_
    refine LW.pure rfl rfl (RV.geq rfl rfl) ?_
    refine LW.pure rfl rfl (RV.move rfl) ?_
    refine LW.noB rfl rfl rfl rfl (ne_beq (v := false) hq1 rfl) ?_
    refine LW.noB rfl rfl rfl rfl (ne_beq (v := false) hq1 rfl) ?_
    refine LW.noB rfl rfl rfl rfl (ne_beq (v := false) hq1 rfl) ?_
    refine LW.pure rfl rfl (RV.pickFB rfl hq1 rfl) ?_
    refine LW.pure rfl rfl (RV.assign rfl) ?_
    refine LW.nil (hK2 _ _ ?_)
    refine CW.ret ?_
    obtain rfl := Option.some.inj F
    refine ⟨_, (ResOK.one rfl), ?_⟩
    refine ⟨(by first | rfl | simp), R0⟩
set_option maxRecDepth 20000 in
set_option maxHeartbeats 1000000 in
theorem ref02_Validate_ok {a0 : Net} {A_a0_drains : Option Addr} {c_a0_drains : Nat} {w : World} {res : Int} (h_a0_drains : Sl w A_a0_drains c_a0_drains 3 (a0.drains.map encDrain)) (F : ref02_Validate a0 = some res) : Calls Try.prog 27 #[.agg #[.int .i64 a0.nodes, .int .i64 a0.from_, .int .i64 a0.to_, .slice A_a0_drains a0.drains.length c_a0_drains]] w (Rt w (.int .i64 res)) := by
  refine calls_of_cw (args := [.agg #[.int .i64 a0.nodes, .int .i64 a0.from_, .int .i64 a0.to_, .slice A_a0_drains a0.drains.length c_a0_drains]]) Try.func27 rfl rfl rfl rfl ?_
  have H := Hp.start w
  have R0 := H.ext
  unfold ref02_Validate at F
  refine CW.seq fun K1 hK1 => ?_
  refine CW.region ?_
  refine LW.go rfl rfl (OW.box rfl fun b1 w1 N1 => ?_)
  replace H := H.new N1 N1.blk
  replace R0 := H.ext
  refine LW.pure rfl rfl (RV.assign rfl) ?_
  refine LW.nil (hK1 _ _ ?_)
  refine CW.seq fun K2 hK2 => ?_
  refine CW.seqJ (fun ρ wl1 => (∃ (t33_1 : Bool), ref02_Validate_k3 a0 t33_1 = some res ∧ ρ = [(1, .pointer (some (⟨b1, 0, none⟩))), (2, .int .i64 0), (33, .bool t33_1)] ∧ Hp w wl1 [.blk b1 24 [.int .i64 a0.nodes, .int .i64 a0.from_, .int .i64 a0.to_, .slice A_a0_drains a0.drains.length c_a0_drains]])) ?_ ?_
  ·
    rintro _ wl1 ⟨t33_1, F, rfl, H⟩
    have R0 := H.ext
    unfold ref02_Validate_k3 at F
    by_cases hp1 : t33_1 = true
    ·
      replace F := ite_y hp1 F
      have hq1 : t33_1 = true := hp1
      refine CW.condT rfl hq1 ?_
      refine CW.seq fun K3 hK3 => ?_
      refine CW.region ?_
      refine LW.pure rfl rfl (RV.assign rfl) ?_
      refine LW.nil (hK3 _ _ ?_)
      refine CW.ret ?_
      obtain rfl := Option.some.inj F
      refine ⟨_, (ResOK.one rfl), ?_⟩
      refine ⟨(by first | rfl | simp), R0⟩
    ·
      replace F := ite_n hp1 F
      have hq1 : t33_1 = false := raw_f hp1
      refine CW.condF rfl hq1 ?_
      refine CW.skip (hK2 _ _ ?_)
      refine CW.seq fun K4 hK4 => ?_
      refine CW.seq fun K5 hK5 => ?_
      refine CW.region ?_
      refine LW.pure rfl rfl (RV.fieldAddr Tf24_3 rfl) ?_
      refine LW.pure rfl rfl (RV.load1 Tk22 rfl ((H.blk 0 rfl).cells.off 3) rfl) ?_
      refine LW.pure rfl rfl (RV.len Ts22 rfl) ?_
      refine LW.pure rfl rfl (RV.gtr rfl rfl) ?_
      refine LW.nil (hK5 _ _ ?_)
      by_cases hp2 : (16 : Int) < ((a0.drains.length : Int))
      ·
        replace F := ite_y hp2 F
        have hq2 := dec_t hp2
        refine CW.condT rfl hq2 ?_
        refine CW.seq fun K6 hK6 => ?_
        refine CW.region ?_
        refine LW.pure rfl rfl (RV.assign rfl) ?_
        refine LW.nil (hK6 _ _ ?_)
        refine CW.ret ?_
        obtain rfl := Option.some.inj F
        refine ⟨_, (ResOK.one rfl), ?_⟩
        refine ⟨(by first | rfl | simp), R0⟩
      ·
        replace F := ite_n hp2 F
        have hq2 := dec_f hp2
        refine CW.condF rfl hq2 ?_
        refine CW.skip (hK4 _ _ ?_)
        refine CW.seqJ (fun ρ wl2 => (ref02_Validate_k1 = some res ∧ ρ = [(2, .int .i64 0)] ∧ Hp w wl2 [])) ?_ ?_
        ·
          rintro _ wl2 ⟨F, rfl, H⟩
          have R0 := H.ext
          unfold ref02_Validate_k1 at F
          refine CW.seq fun K7 hK7 => ?_
          refine CW.region ?_
          refine LW.pure rfl rfl (RV.assign rfl) ?_
          refine LW.nil (hK7 _ _ ?_)
          refine CW.ret ?_
          obtain rfl := Option.some.inj F
          refine ⟨_, (ResOK.one rfl), ?_⟩
          refine ⟨(by first | rfl | simp), R0⟩
        ·
          intro K8 hK8 jK74
          refine CW.seq fun K9 hK9 => ?_
          refine CW.region ?_
          refine LW.pure rfl rfl (RV.assign rfl) ?_
          refine LW.nil (hK9 _ _ ?_)
          refine CW.block ?_
          refine CW.loop (fun meas ρ wl3 => ∃ (t3_1 : Int), ref02_Validate_L1 a0 meas t3_1 = some res ∧ ρ = [(1, .pointer (some (⟨b1, 0, none⟩))), (2, .int .i64 0), (3, .int .i64 t3_1)] ∧ Hp w wl3 [.blk b1 24 [.int .i64 a0.nodes, .int .i64 a0.from_, .int .i64 a0.to_, .slice A_a0_drains a0.drains.length c_a0_drains]]) FU ⟨_, ?_, ((0 : Int)), F, rfl, H⟩ ?_
          · exact ⟨rfl, rfl, rfl, trivial⟩
          rintro mk1 _ wl3 ⟨t3_1, F, rfl, H⟩
          have R0 := H.ext
          replace F := ref02_Validate_L1_s F
          obtain ⟨mk1, rfl, F⟩ := F
          generalize hrec1 : ref02_Validate_L1 a0 mk1 = rec1 at F
          unfold ref02_Validate_B1 at F
          refine CW.seq fun K10 hK10 => ?_
          refine CW.seq fun K11 hK11 => ?_
          refine CW.region ?_
          refine LW.pure rfl rfl (RV.move rfl) ?_
          refine LW.pure rfl rfl (RV.fieldAddr Tf24_3 rfl) ?_
          refine LW.pure rfl rfl (RV.load1 Tk22 rfl ((H.blk 0 rfl).cells.off 3) rfl) ?_
          refine LW.pure rfl rfl (RV.len Ts22 rfl) ?_
          refine LW.pure rfl rfl (RV.lss rfl rfl) ?_
          refine LW.nil (hK11 _ _ ?_)
          by_cases hp3 : t3_1 < ((a0.drains.length : Int))
          ·
            replace F := ite_y hp3 F
            have hq3 := dec_t hp3
            refine CW.condT rfl hq3 ?_
            refine CW.skip (hK10 _ _ ?_)
            refine CW.seq fun K12 hK12 => ?_
            refine CW.block ?_
            refine CW.seq fun K13 hK13 => ?_
            obtain ⟨x1, hbx1, hx1, F⟩ := ix_some F
            refine CW.region ?_
            refine LW.pure rfl rfl (RV.fieldAddr Tf24_3 rfl) ?_
            refine LW.pure rfl rfl (RV.load1 Tk22 rfl ((H.blk 0 rfl).cells.off 3) rfl) ?_
            refine LW.pure rfl rfl (RV.move rfl) ?_
            refine LW.pure rfl rfl (RV.indexAddr Ts22 rfl rfl hbx1 (h_a0_drains.addr_ hx1)) ?_
            refine LW.pure rfl rfl (RV.loadA [.int .i64 x1.from_, .int .i64 x1.to_, .int .i64 x1.width] Tk52 rfl ((h_a0_drains.at_ hx1).ext R0) rfl rfl) ?_
            refine LW.go rfl rfl (OW.alloc Tz52 fun b2 w2 N2 => ?_)
            replace H := H.new N2 N2.blk
            replace R0 := H.ext
            refine LW.go rfl rfl (OW.store Tk52 rfl rfl (H.blk 0 rfl) (off := 0) (vs := [.int .i64 x1.from_, .int .i64 x1.to_, .int .i64 x1.width]) rfl rfl rfl rfl rfl fun w3 S1 => ?_)
            replace H : Hp w w3 [.blk b2 52 [.int .i64 x1.from_, .int .i64 x1.to_, .int .i64 x1.width], .blk b1 24 [.int .i64 a0.nodes, .int .i64 a0.from_, .int .i64 a0.to_, .slice A_a0_drains a0.drains.length c_a0_drains]] := H.stored 0 rfl S1
            replace R0 := H.ext
            refine LW.nil (hK13 _ _ ?_)
            refine CW.seqJ (fun ρ wl4 => (∃ (t78_1 : Bool), ref02_Validate_k2 t3_1 rec1 t78_1 = some res ∧ ρ = [(1, .pointer (some (⟨b1, 0, none⟩))), (2, .int .i64 0), (3, .int .i64 t3_1), (78, .bool t78_1)] ∧ Hp w wl4 [.blk b1 24 [.int .i64 a0.nodes, .int .i64 a0.from_, .int .i64 a0.to_, .slice A_a0_drains a0.drains.length c_a0_drains]])) ?_ ?_
            ·
              rintro _ wl4 ⟨t78_1, F, rfl, H⟩
              have R0 := H.ext
              unfold ref02_Validate_k2 at F
              by_cases hp4 : t78_1 = true
              ·
                replace F := ite_y hp4 F
                have hq4 : t78_1 = true := hp4
                refine CW.condT rfl hq4 ?_
                refine CW.seq fun K14 hK14 => ?_
                refine CW.region ?_
                refine LW.pure rfl rfl (RV.assign rfl) ?_
                refine LW.nil (hK14 _ _ ?_)
                refine CW.ret ?_
                obtain rfl := Option.some.inj F
                refine ⟨_, (ResOK.one rfl), ?_⟩
                refine ⟨(by first | rfl | simp), R0⟩
              ·
                replace F := ite_n hp4 F
                have hq4 : t78_1 = false := raw_f hp4
                refine CW.condF rfl hq4 ?_
                refine CW.skip (hK12 _ _ ?_)
                obtain ⟨hg1, F⟩ := gd_some F
                refine CW.region ?_
                refine LW.pure rfl rfl (RV.move rfl) ?_
                refine LW.pure rfl rfl (RV.add rfl rfl hg1) ?_
                refine LW.pure rfl rfl (RV.assign rfl) ?_
                refine LW.nil ?_
                subst hrec1
                refine ⟨mk1, Nat.lt_succ_self _, _, ?_, (t3_1 + 1), F, rfl, H⟩
                exact ⟨rfl, rfl, rfl, trivial⟩
            ·
              intro K15 hK15 jK93
              obtain ⟨hg2, F⟩ := gd_some F
              obtain ⟨r1, hr1, F⟩ := bnd_some F
              by_cases hp5 : r1 = true
              ·
                replace F := ite_y hp5 F
                have hq5 : r1 = true := hp5
                obtain ⟨hg3, F⟩ := gd_some F
                obtain ⟨r2, hr2, F⟩ := bnd_some F
                by_cases hp6 : r2 = true
                ·
                  replace F := ite_y hp6 F
                  have hq6 : r2 = true := hp6
                  by_cases hp7 : x1.from_ = x1.to_
                  ·
                    replace F := ite_y hp7 F
                    have hq7 := dec_t hp7
                    refine CW.region ?_
                    refine LW.pure rfl rfl (RV.fieldAddr Tf52_0 rfl) ?_
                    refine LW.pure rfl rfl (RV.load1 Tk3 rfl ((H.blk 0 rfl).cells.off 0) rfl) ?_
                    refine LW.pure rfl rfl (RV.fieldAddr Tf24_0 rfl) ?_
                    refine LW.pure rfl rfl (RV.load1 Tk3 rfl ((H.blk 1 rfl).cells.off 0) rfl) ?_
                    refine LW.pure rfl rfl (RV.sub rfl rfl hg2) ?_
                    refine LW.go rfl rfl (OW.call Tc60 rfl (ref02_within_ok (a0 := x1.from_) (a1 := (0 : Int)) (a2 := a0.nodes - 1) hr1) ?_)
                    rintro _ w4 ⟨rfl, E1⟩
                    refine ⟨_, rfl, ?_⟩
                    replace H := H.grow E1
                    replace R0 := H.ext
                    refine LW.pure rfl rfl (RV.not rfl) ?_
                    refine LW.pure rfl rfl (RV.move rfl) ?_
                    refine LW.pureYB rfl rfl rfl rfl (not_f hq5) (RV.fieldAddr Tf52_1 rfl) ?_
                    refine LW.pureYB rfl rfl rfl rfl (not_f hq5) (RV.load1 Tk3 rfl ((H.blk 0 rfl).cells.off 1) rfl) ?_
                    refine LW.pureYB rfl rfl rfl rfl (not_f hq5) (RV.fieldAddr Tf24_0 rfl) ?_
                    refine LW.pureYB rfl rfl rfl rfl (not_f hq5) (RV.load1 Tk3 rfl ((H.blk 1 rfl).cells.off 0) rfl) ?_
                    refine LW.pureYB rfl rfl rfl rfl (not_f hq5) (RV.sub rfl rfl hg3) ?_
                    refine LW.yesB rfl rfl rfl rfl (not_f hq5) (OW.call Tc60 rfl (ref02_within_ok (a0 := x1.to_) (a1 := (0 : Int)) (a2 := a0.nodes - 1) hr2) ?_)
                    rintro _ w5 ⟨rfl, E2⟩
                    refine ⟨_, rfl, ?_⟩
                    replace H := H.grow E2
                    replace R0 := H.ext
                    refine LW.pureYB rfl rfl rfl rfl (not_f hq5) (RV.not rfl) ?_
                    refine LW.pure rfl rfl (RV.pickFB rfl (not_f hq5) rfl) ?_
                    refine LW.pure rfl rfl (RV.move rfl) ?_
                    refine LW.pureYB rfl rfl rfl rfl (not_f hq6) (RV.fieldAddr Tf52_0 rfl) ?_
                    refine LW.pureYB rfl rfl rfl rfl (not_f hq6) (RV.load1 Tk3 rfl ((H.blk 0 rfl).cells.off 0) rfl) ?_
                    refine LW.pureYB rfl rfl rfl rfl (not_f hq6) (RV.fieldAddr Tf52_1 rfl) ?_
                    refine LW.pureYB rfl rfl rfl rfl (not_f hq6) (RV.load1 Tk3 rfl ((H.blk 0 rfl).cells.off 1) rfl) ?_
                    refine LW.pureYB rfl rfl rfl rfl (not_f hq6) (RV.eqi rfl rfl) ?_
                    refine LW.pure rfl rfl (RV.pickFB rfl (not_f hq6) rfl) ?_
                    refine LW.pure rfl rfl (RV.move rfl) ?_
                    refine LW.noB rfl rfl rfl rfl (ne_beq (v := true) hq7 rfl) ?_
                    refine LW.noB rfl rfl rfl rfl (ne_beq (v := true) hq7 rfl) ?_
                    refine LW.noB rfl rfl rfl rfl (ne_beq (v := true) hq7 rfl) ?_
                    refine LW.noB rfl rfl rfl rfl (ne_beq (v := true) hq7 rfl) ?_
                    refine LW.pure rfl rfl (RV.pickTB rfl hq7 rfl) ?_
                    replace H := H.pick (L' := [.blk b1 24 [.int .i64 a0.nodes, .int .i64 a0.from_, .int .i64 a0.to_, .slice A_a0_drains a0.drains.length c_a0_drains]]) [1] (by decide) rfl
                    replace R0 := H.ext
                    refine LW.nil (jK93 _ _ ⟨_, ?_, ⟨true, F, rfl, H⟩⟩)
                    exact ⟨rfl, rfl, rfl, rfl, trivial⟩
                  ·
                    replace F := ite_n hp7 F
                    have hq7 := dec_f hp7
                    obtain ⟨r3, hr3, F⟩ := bnd_some F
                    refine CW.region ?_
                    refine LW.pure rfl rfl (RV.fieldAddr Tf52_0 rfl) ?_
                    refine LW.pure rfl rfl (RV.load1 Tk3 rfl ((H.blk 0 rfl).cells.off 0) rfl) ?_
                    refine LW.pure rfl rfl (RV.fieldAddr Tf24_0 rfl) ?_
                    refine LW.pure rfl rfl (RV.load1 Tk3 rfl ((H.blk 1 rfl).cells.off 0) rfl) ?_
                    refine LW.pure rfl rfl (RV.sub rfl rfl hg2) ?_
                    refine LW.go rfl rfl (OW.call Tc60 rfl (ref02_within_ok (a0 := x1.from_) (a1 := (0 : Int)) (a2 := a0.nodes - 1) hr1) ?_)
                    rintro _ w6 ⟨rfl, E3⟩
                    refine ⟨_, rfl, ?_⟩
                    replace H := H.grow E3
                    replace R0 := H.ext
                    refine LW.pure rfl rfl (RV.not rfl) ?_
                    refine LW.pure rfl rfl (RV.move rfl) ?_
                    refine LW.pureYB rfl rfl rfl rfl (not_f hq5) (RV.fieldAddr Tf52_1 rfl) ?_
                    refine LW.pureYB rfl rfl rfl rfl (not_f hq5) (RV.load1 Tk3 rfl ((H.blk 0 rfl).cells.off 1) rfl) ?_
                    refine LW.pureYB rfl rfl rfl rfl (not_f hq5) (RV.fieldAddr Tf24_0 rfl) ?_
                    refine LW.pureYB rfl rfl rfl rfl (not_f hq5) (RV.load1 Tk3 rfl ((H.blk 1 rfl).cells.off 0) rfl) ?_
                    refine LW.pureYB rfl rfl rfl rfl (not_f hq5) (RV.sub rfl rfl hg3) ?_
                    refine LW.yesB rfl rfl rfl rfl (not_f hq5) (OW.call Tc60 rfl (ref02_within_ok (a0 := x1.to_) (a1 := (0 : Int)) (a2 := a0.nodes - 1) hr2) ?_)
                    rintro _ w7 ⟨rfl, E4⟩
                    refine ⟨_, rfl, ?_⟩
                    replace H := H.grow E4
                    replace R0 := H.ext
                    refine LW.pureYB rfl rfl rfl rfl (not_f hq5) (RV.not rfl) ?_
                    refine LW.pure rfl rfl (RV.pickFB rfl (not_f hq5) rfl) ?_
                    refine LW.pure rfl rfl (RV.move rfl) ?_
                    refine LW.pureYB rfl rfl rfl rfl (not_f hq6) (RV.fieldAddr Tf52_0 rfl) ?_
                    refine LW.pureYB rfl rfl rfl rfl (not_f hq6) (RV.load1 Tk3 rfl ((H.blk 0 rfl).cells.off 0) rfl) ?_
                    refine LW.pureYB rfl rfl rfl rfl (not_f hq6) (RV.fieldAddr Tf52_1 rfl) ?_
                    refine LW.pureYB rfl rfl rfl rfl (not_f hq6) (RV.load1 Tk3 rfl ((H.blk 0 rfl).cells.off 1) rfl) ?_
                    refine LW.pureYB rfl rfl rfl rfl (not_f hq6) (RV.eqi rfl rfl) ?_
                    refine LW.pure rfl rfl (RV.pickFB rfl (not_f hq6) rfl) ?_
                    refine LW.pure rfl rfl (RV.move rfl) ?_
                    refine LW.pureYB rfl rfl rfl rfl hq7 (RV.fieldAddr Tf52_2 rfl) ?_
                    refine LW.pureYB rfl rfl rfl rfl hq7 (RV.load1 Tk3 rfl ((H.blk 0 rfl).cells.off 2) rfl) ?_
                    refine LW.yesB rfl rfl rfl rfl hq7 (OW.call Tc60 rfl (ref02_within_ok (a0 := x1.width) (a1 := (0 : Int)) (a2 := (20 : Int)) hr3) ?_)
                    rintro _ w8 ⟨rfl, E5⟩
                    refine ⟨_, rfl, ?_⟩
                    replace H := H.grow E5
                    replace R0 := H.ext
                    refine LW.pureYB rfl rfl rfl rfl hq7 (RV.not rfl) ?_
                    refine LW.pure rfl rfl (RV.pickFB rfl hq7 rfl) ?_
                    replace H := H.pick (L' := [.blk b1 24 [.int .i64 a0.nodes, .int .i64 a0.from_, .int .i64 a0.to_, .slice A_a0_drains a0.drains.length c_a0_drains]]) [1] (by decide) rfl
                    replace R0 := H.ext
                    refine LW.nil (jK93 _ _ ⟨_, ?_, ⟨(!r3), F, rfl, H⟩⟩)
                    exact ⟨rfl, rfl, rfl, rfl, trivial⟩
                ·
                  replace F := ite_n hp6 F
                  have hq6 : r2 = false := raw_f hp6
                  refine CW.region ?_
                  refine LW.pure rfl rfl (RV.fieldAddr Tf52_0 rfl) ?_
                  refine LW.pure rfl rfl (RV.load1 Tk3 rfl ((H.blk 0 rfl).cells.off 0) rfl) ?_
                  refine LW.pure rfl rfl (RV.fieldAddr Tf24_0 rfl) ?_
                  refine LW.pure rfl rfl (RV.load1 Tk3 rfl ((H.blk 1 rfl).cells.off 0) rfl) ?_
                  refine LW.pure rfl rfl (RV.sub rfl rfl hg2) ?_
                  refine LW.go rfl rfl (OW.call Tc60 rfl (ref02_within_ok (a0 := x1.from_) (a1 := (0 : Int)) (a2 := a0.nodes - 1) hr1) ?_)
                  rintro _ w9 ⟨rfl, E6⟩
                  refine ⟨_, rfl, ?_⟩
                  replace H := H.grow E6
                  replace R0 := H.ext
                  refine LW.pure rfl rfl (RV.not rfl) ?_
                  refine LW.pure rfl rfl (RV.move rfl) ?_
                  refine LW.pureYB rfl rfl rfl rfl (not_f hq5) (RV.fieldAddr Tf52_1 rfl) ?_
                  refine LW.pureYB rfl rfl rfl rfl (not_f hq5) (RV.load1 Tk3 rfl ((H.blk 0 rfl).cells.off 1) rfl) ?_
                  refine LW.pureYB rfl rfl rfl rfl (not_f hq5) (RV.fieldAddr Tf24_0 rfl) ?_
                  refine LW.pureYB rfl rfl rfl rfl (not_f hq5) (RV.load1 Tk3 rfl ((H.blk 1 rfl).cells.off 0) rfl) ?_
                  refine LW.pureYB rfl rfl rfl rfl (not_f hq5) (RV.sub rfl rfl hg3) ?_
                  refine LW.yesB rfl rfl rfl rfl (not_f hq5) (OW.call Tc60 rfl (ref02_within_ok (a0 := x1.to_) (a1 := (0 : Int)) (a2 := a0.nodes - 1) hr2) ?_)
                  rintro _ w10 ⟨rfl, E7⟩
                  refine ⟨_, rfl, ?_⟩
                  replace H := H.grow E7
                  replace R0 := H.ext
                  refine LW.pureYB rfl rfl rfl rfl (not_f hq5) (RV.not rfl) ?_
                  refine LW.pure rfl rfl (RV.pickFB rfl (not_f hq5) rfl) ?_
                  refine LW.pure rfl rfl (RV.move rfl) ?_
                  refine LW.noB rfl rfl rfl rfl (ne_beq (v := true) (not_t hq6) rfl) ?_
                  refine LW.noB rfl rfl rfl rfl (ne_beq (v := true) (not_t hq6) rfl) ?_
                  refine LW.noB rfl rfl rfl rfl (ne_beq (v := true) (not_t hq6) rfl) ?_
                  refine LW.noB rfl rfl rfl rfl (ne_beq (v := true) (not_t hq6) rfl) ?_
                  refine LW.noB rfl rfl rfl rfl (ne_beq (v := true) (not_t hq6) rfl) ?_
                  refine LW.pure rfl rfl (RV.pickTB rfl (not_t hq6) rfl) ?_
                  refine LW.pure rfl rfl (RV.move rfl) ?_
                  refine LW.noB rfl rfl rfl rfl (ne_beq (v := true) rfl rfl) ?_
                  refine LW.noB rfl rfl rfl rfl (ne_beq (v := true) rfl rfl) ?_
                  refine LW.noB rfl rfl rfl rfl (ne_beq (v := true) rfl rfl) ?_
                  refine LW.noB rfl rfl rfl rfl (ne_beq (v := true) rfl rfl) ?_
                  refine LW.pure rfl rfl (RV.pickTB rfl rfl rfl) ?_
                  replace H := H.pick (L' := [.blk b1 24 [.int .i64 a0.nodes, .int .i64 a0.from_, .int .i64 a0.to_, .slice A_a0_drains a0.drains.length c_a0_drains]]) [1] (by decide) rfl
                  replace R0 := H.ext
                  refine LW.nil (jK93 _ _ ⟨_, ?_, ⟨true, F, rfl, H⟩⟩)
                  exact ⟨rfl, rfl, rfl, rfl, trivial⟩
              ·
                replace F := ite_n hp5 F
                have hq5 : r1 = false := raw_f hp5
                refine CW.region ?_
                refine LW.pure rfl rfl (RV.fieldAddr Tf52_0 rfl) ?_
                refine LW.pure rfl rfl (RV.load1 Tk3 rfl ((H.blk 0 rfl).cells.off 0) rfl) ?_
                refine LW.pure rfl rfl (RV.fieldAddr Tf24_0 rfl) ?_
                refine LW.pure rfl rfl (RV.load1 Tk3 rfl ((H.blk 1 rfl).cells.off 0) rfl) ?_
                refine LW.pure rfl rfl (RV.sub rfl rfl hg2) ?_
                refine LW.go rfl rfl (OW.call Tc60 rfl (ref02_within_ok (a0 := x1.from_) (a1 := (0 : Int)) (a2 := a0.nodes - 1) hr1) ?_)
                rintro _ w11 ⟨rfl, E8⟩
                refine ⟨_, rfl, ?_⟩
                replace H := H.grow E8
                replace R0 := H.ext
                refine LW.pure rfl rfl (RV.not rfl) ?_
                refine LW.pure rfl rfl (RV.move rfl) ?_
                refine LW.noB rfl rfl rfl rfl (ne_beq (v := true) (not_t hq5) rfl) ?_
                refine LW.noB rfl rfl rfl rfl (ne_beq (v := true) (not_t hq5) rfl) ?_
                refine LW.noB rfl rfl rfl rfl (ne_beq (v := true) (not_t hq5) rfl) ?_
                refine LW.noB rfl rfl rfl rfl (ne_beq (v := true) (not_t hq5) rfl) ?_
                refine LW.noB rfl rfl rfl rfl (ne_beq (v := true) (not_t hq5) rfl) ?_
                refine LW.noB rfl rfl rfl rfl (ne_beq (v := true) (not_t hq5) rfl) ?_
                refine LW.noB rfl rfl rfl rfl (ne_beq (v := true) (not_t hq5) rfl) ?_
                refine LW.pure rfl rfl (RV.pickTB rfl (not_t hq5) rfl) ?_
                refine LW.pure rfl rfl (RV.move rfl) ?_
                refine LW.noB rfl rfl rfl rfl (ne_beq (v := true) rfl rfl) ?_
                refine LW.noB rfl rfl rfl rfl (ne_beq (v := true) rfl rfl) ?_
                refine LW.noB rfl rfl rfl rfl (ne_beq (v := true) rfl rfl) ?_
                refine LW.noB rfl rfl rfl rfl (ne_beq (v := true) rfl rfl) ?_
                refine LW.noB rfl rfl rfl rfl (ne_beq (v := true) rfl rfl) ?_
                refine LW.pure rfl rfl (RV.pickTB rfl rfl rfl) ?_
                refine LW.pure rfl rfl (RV.move rfl) ?_
                refine LW.noB rfl rfl rfl rfl (ne_beq (v := true) rfl rfl) ?_
                refine LW.noB rfl rfl rfl rfl (ne_beq (v := true) rfl rfl) ?_
                refine LW.noB rfl rfl rfl rfl (ne_beq (v := true) rfl rfl) ?_
                refine LW.noB rfl rfl rfl rfl (ne_beq (v := true) rfl rfl) ?_
                refine LW.pure rfl rfl (RV.pickTB rfl rfl rfl) ?_
                replace H := H.pick (L' := [.blk b1 24 [.int .i64 a0.nodes, .int .i64 a0.from_, .int .i64 a0.to_, .slice A_a0_drains a0.drains.length c_a0_drains]]) [1] (by decide) rfl
                replace R0 := H.ext
                refine LW.nil (jK93 _ _ ⟨_, ?_, ⟨true, F, rfl, H⟩⟩)
                exact ⟨rfl, rfl, rfl, rfl, trivial⟩
          ·
            replace F := ite_n hp3 F
            have hq3 := dec_f hp3
            refine CW.condF rfl hq3 ?_
            replace H := H.pick (L' := []) [] (by decide) rfl
            replace R0 := H.ext
            refine CW.exit (jK74 _ _ ⟨_, ?_, ⟨F, rfl, H⟩⟩)
            exact ⟨rfl, trivial⟩
  ·
    intro K16 hK16 jK94
    obtain ⟨r4, hr4, F⟩ := bnd_some F
    by_cases hp8 : r4 = true
    ·
      replace F := ite_y hp8 F
      have hq8 : r4 = true := hp8
      obtain ⟨hg4, F⟩ := gd_some F
      obtain ⟨r5, hr5, F⟩ := bnd_some F
      by_cases hp9 : r5 = true
      ·
        replace F := ite_y hp9 F
        have hq9 : r5 = true := hp9
        obtain ⟨hg5, F⟩ := gd_some F
        obtain ⟨r6, hr6, F⟩ := bnd_some F
        by_cases hp10 : r6 = true
        ·
          replace F := ite_y hp10 F
          have hq10 : r6 = true := hp10
          refine CW.region ?_
          refine LW.pure rfl rfl (RV.fieldAddr Tf24_0 rfl) ?_
          refine LW.pure rfl rfl (RV.load1 Tk3 rfl ((H.blk 0 rfl).cells.off 0) rfl) ?_
          refine LW.go rfl rfl (OW.call Tc60 rfl (ref02_within_ok (a0 := a0.nodes) (a1 := (2 : Int)) (a2 := (8 : Int)) hr4) ?_)
          rintro _ w12 ⟨rfl, E9⟩
          refine ⟨_, rfl, ?_⟩
          replace H := H.grow E9
          replace R0 := H.ext
          refine LW.pure rfl rfl (RV.not rfl) ?_
          refine LW.pure rfl rfl (RV.move rfl) ?_
          refine LW.pureYB rfl rfl rfl rfl (not_f hq8) (RV.fieldAddr Tf24_1 rfl) ?_
          refine LW.pureYB rfl rfl rfl rfl (not_f hq8) (RV.load1 Tk3 rfl ((H.blk 0 rfl).cells.off 1) rfl) ?_
          refine LW.pureYB rfl rfl rfl rfl (not_f hq8) (RV.fieldAddr Tf24_0 rfl) ?_
          refine LW.pureYB rfl rfl rfl rfl (not_f hq8) (RV.load1 Tk3 rfl ((H.blk 0 rfl).cells.off 0) rfl) ?_
          refine LW.pureYB rfl rfl rfl rfl (not_f hq8) (RV.sub rfl rfl hg4) ?_
          refine LW.yesB rfl rfl rfl rfl (not_f hq8) (OW.call Tc60 rfl (ref02_within_ok (a0 := a0.from_) (a1 := (0 : Int)) (a2 := a0.nodes - 1) hr5) ?_)
          rintro _ w13 ⟨rfl, E10⟩
          refine ⟨_, rfl, ?_⟩
          replace H := H.grow E10
          replace R0 := H.ext
          refine LW.pureYB rfl rfl rfl rfl (not_f hq8) (RV.not rfl) ?_
          refine LW.pure rfl rfl (RV.pickFB rfl (not_f hq8) rfl) ?_
          refine LW.pure rfl rfl (RV.move rfl) ?_
          refine LW.pureYB rfl rfl rfl rfl (not_f hq9) (RV.fieldAddr Tf24_2 rfl) ?_
          refine LW.pureYB rfl rfl rfl rfl (not_f hq9) (RV.load1 Tk3 rfl ((H.blk 0 rfl).cells.off 2) rfl) ?_
          refine LW.pureYB rfl rfl rfl rfl (not_f hq9) (RV.fieldAddr Tf24_0 rfl) ?_
          refine LW.pureYB rfl rfl rfl rfl (not_f hq9) (RV.load1 Tk3 rfl ((H.blk 0 rfl).cells.off 0) rfl) ?_
          refine LW.pureYB rfl rfl rfl rfl (not_f hq9) (RV.sub rfl rfl hg5) ?_
          refine LW.yesB rfl rfl rfl rfl (not_f hq9) (OW.call Tc60 rfl (ref02_within_ok (a0 := a0.to_) (a1 := (0 : Int)) (a2 := a0.nodes - 1) hr6) ?_)
          rintro _ w14 ⟨rfl, E11⟩
          refine ⟨_, rfl, ?_⟩
          replace H := H.grow E11
          replace R0 := H.ext
          refine LW.pureYB rfl rfl rfl rfl (not_f hq9) (RV.not rfl) ?_
          refine LW.pure rfl rfl (RV.pickFB rfl (not_f hq9) rfl) ?_
          refine LW.pure rfl rfl (RV.move rfl) ?_
          refine LW.pureYB rfl rfl rfl rfl (not_f hq10) (RV.fieldAddr Tf24_1 rfl) ?_
          refine LW.pureYB rfl rfl rfl rfl (not_f hq10) (RV.load1 Tk3 rfl ((H.blk 0 rfl).cells.off 1) rfl) ?_
          refine LW.pureYB rfl rfl rfl rfl (not_f hq10) (RV.fieldAddr Tf24_2 rfl) ?_
          refine LW.pureYB rfl rfl rfl rfl (not_f hq10) (RV.load1 Tk3 rfl ((H.blk 0 rfl).cells.off 2) rfl) ?_
          refine LW.pureYB rfl rfl rfl rfl (not_f hq10) (RV.eqi rfl rfl) ?_
          refine LW.pure rfl rfl (RV.pickFB rfl (not_f hq10) rfl) ?_
          refine LW.nil (jK94 _ _ ⟨_, ?_, ⟨(decide (a0.from_ = a0.to_)), F, rfl, H⟩⟩)
          exact ⟨rfl, rfl, rfl, trivial⟩
        ·
          replace F := ite_n hp10 F
          have hq10 : r6 = false := raw_f hp10
          refine CW.region ?_
          refine LW.pure rfl rfl (RV.fieldAddr Tf24_0 rfl) ?_
          refine LW.pure rfl rfl (RV.load1 Tk3 rfl ((H.blk 0 rfl).cells.off 0) rfl) ?_
          refine LW.go rfl rfl (OW.call Tc60 rfl (ref02_within_ok (a0 := a0.nodes) (a1 := (2 : Int)) (a2 := (8 : Int)) hr4) ?_)
          rintro _ w15 ⟨rfl, E12⟩
          refine ⟨_, rfl, ?_⟩
          replace H := H.grow E12
          replace R0 := H.ext
          refine LW.pure rfl rfl (RV.not rfl) ?_
          refine LW.pure rfl rfl (RV.move rfl) ?_
          refine LW.pureYB rfl rfl rfl rfl (not_f hq8) (RV.fieldAddr Tf24_1 rfl) ?_
          refine LW.pureYB rfl rfl rfl rfl (not_f hq8) (RV.load1 Tk3 rfl ((H.blk 0 rfl).cells.off 1) rfl) ?_
          refine LW.pureYB rfl rfl rfl rfl (not_f hq8) (RV.fieldAddr Tf24_0 rfl) ?_
          refine LW.pureYB rfl rfl rfl rfl (not_f hq8) (RV.load1 Tk3 rfl ((H.blk 0 rfl).cells.off 0) rfl) ?_
          refine LW.pureYB rfl rfl rfl rfl (not_f hq8) (RV.sub rfl rfl hg4) ?_
          refine LW.yesB rfl rfl rfl rfl (not_f hq8) (OW.call Tc60 rfl (ref02_within_ok (a0 := a0.from_) (a1 := (0 : Int)) (a2 := a0.nodes - 1) hr5) ?_)
          rintro _ w16 ⟨rfl, E13⟩
          refine ⟨_, rfl, ?_⟩
          replace H := H.grow E13
          replace R0 := H.ext
          refine LW.pureYB rfl rfl rfl rfl (not_f hq8) (RV.not rfl) ?_
          refine LW.pure rfl rfl (RV.pickFB rfl (not_f hq8) rfl) ?_
          refine LW.pure rfl rfl (RV.move rfl) ?_
          refine LW.pureYB rfl rfl rfl rfl (not_f hq9) (RV.fieldAddr Tf24_2 rfl) ?_
          refine LW.pureYB rfl rfl rfl rfl (not_f hq9) (RV.load1 Tk3 rfl ((H.blk 0 rfl).cells.off 2) rfl) ?_
          refine LW.pureYB rfl rfl rfl rfl (not_f hq9) (RV.fieldAddr Tf24_0 rfl) ?_
          refine LW.pureYB rfl rfl rfl rfl (not_f hq9) (RV.load1 Tk3 rfl ((H.blk 0 rfl).cells.off 0) rfl) ?_
          refine LW.pureYB rfl rfl rfl rfl (not_f hq9) (RV.sub rfl rfl hg5) ?_
          refine LW.yesB rfl rfl rfl rfl (not_f hq9) (OW.call Tc60 rfl (ref02_within_ok (a0 := a0.to_) (a1 := (0 : Int)) (a2 := a0.nodes - 1) hr6) ?_)
          rintro _ w17 ⟨rfl, E14⟩
          refine ⟨_, rfl, ?_⟩
          replace H := H.grow E14
          replace R0 := H.ext
          refine LW.pureYB rfl rfl rfl rfl (not_f hq9) (RV.not rfl) ?_
          refine LW.pure rfl rfl (RV.pickFB rfl (not_f hq9) rfl) ?_
          refine LW.pure rfl rfl (RV.move rfl) ?_
          refine LW.noB rfl rfl rfl rfl (ne_beq (v := true) (not_t hq10) rfl) ?_
          refine LW.noB rfl rfl rfl rfl (ne_beq (v := true) (not_t hq10) rfl) ?_
          refine LW.noB rfl rfl rfl rfl (ne_beq (v := true) (not_t hq10) rfl) ?_
          refine LW.noB rfl rfl rfl rfl (ne_beq (v := true) (not_t hq10) rfl) ?_
          refine LW.noB rfl rfl rfl rfl (ne_beq (v := true) (not_t hq10) rfl) ?_
          refine LW.pure rfl rfl (RV.pickTB rfl (not_t hq10) rfl) ?_
          refine LW.nil (jK94 _ _ ⟨_, ?_, ⟨true, F, rfl, H⟩⟩)
          exact ⟨rfl, rfl, rfl, trivial⟩
      ·
        replace F := ite_n hp9 F
        have hq9 : r5 = false := raw_f hp9
        refine CW.region ?_
        refine LW.pure rfl rfl (RV.fieldAddr Tf24_0 rfl) ?_
        refine LW.pure rfl rfl (RV.load1 Tk3 rfl ((H.blk 0 rfl).cells.off 0) rfl) ?_
        refine LW.go rfl rfl (OW.call Tc60 rfl (ref02_within_ok (a0 := a0.nodes) (a1 := (2 : Int)) (a2 := (8 : Int)) hr4) ?_)
        rintro _ w18 ⟨rfl, E15⟩
        refine ⟨_, rfl, ?_⟩
        replace H := H.grow E15
        replace R0 := H.ext
        refine LW.pure rfl rfl (RV.not rfl) ?_
        refine LW.pure rfl rfl (RV.move rfl) ?_
        refine LW.pureYB rfl rfl rfl rfl (not_f hq8) (RV.fieldAddr Tf24_1 rfl) ?_
        refine LW.pureYB rfl rfl rfl rfl (not_f hq8) (RV.load1 Tk3 rfl ((H.blk 0 rfl).cells.off 1) rfl) ?_
        refine LW.pureYB rfl rfl rfl rfl (not_f hq8) (RV.fieldAddr Tf24_0 rfl) ?_
        refine LW.pureYB rfl rfl rfl rfl (not_f hq8) (RV.load1 Tk3 rfl ((H.blk 0 rfl).cells.off 0) rfl) ?_
        refine LW.pureYB rfl rfl rfl rfl (not_f hq8) (RV.sub rfl rfl hg4) ?_
        refine LW.yesB rfl rfl rfl rfl (not_f hq8) (OW.call Tc60 rfl (ref02_within_ok (a0 := a0.from_) (a1 := (0 : Int)) (a2 := a0.nodes - 1) hr5) ?_)
        rintro _ w19 ⟨rfl, E16⟩
        refine ⟨_, rfl, ?_⟩
        replace H := H.grow E16
        replace R0 := H.ext
        refine LW.pureYB rfl rfl rfl rfl (not_f hq8) (RV.not rfl) ?_
        refine LW.pure rfl rfl (RV.pickFB rfl (not_f hq8) rfl) ?_
        refine LW.pure rfl rfl (RV.move rfl) ?_
        refine LW.noB rfl rfl rfl rfl (ne_beq (v := true) (not_t hq9) rfl) ?_
        refine LW.noB rfl rfl rfl rfl (ne_beq (v := true) (not_t hq9) rfl) ?_
        refine LW.noB rfl rfl rfl rfl (ne_beq (v := true) (not_t hq9) rfl) ?_
        refine LW.noB rfl rfl rfl rfl (ne_beq (v := true) (not_t hq9) rfl) ?_
        refine LW.noB rfl rfl rfl rfl (ne_beq (v := true) (not_t hq9) rfl) ?_
        refine LW.noB rfl rfl rfl rfl (ne_beq (v := true) (not_t hq9) rfl) ?_
        refine LW.noB rfl rfl rfl rfl (ne_beq (v := true) (not_t hq9) rfl) ?_
        refine LW.pure rfl rfl (RV.pickTB rfl (not_t hq9) rfl) ?_
        refine LW.pure rfl rfl (RV.move rfl) ?_
        refine LW.noB rfl rfl rfl rfl (ne_beq (v := true) rfl rfl) ?_
        refine LW.noB rfl rfl rfl rfl (ne_beq (v := true) rfl rfl) ?_
        refine LW.noB rfl rfl rfl rfl (ne_beq (v := true) rfl rfl) ?_
        refine LW.noB rfl rfl rfl rfl (ne_beq (v := true) rfl rfl) ?_
        refine LW.noB rfl rfl rfl rfl (ne_beq (v := true) rfl rfl) ?_
        refine LW.pure rfl rfl (RV.pickTB rfl rfl rfl) ?_
        refine LW.nil (jK94 _ _ ⟨_, ?_, ⟨true, F, rfl, H⟩⟩)
        exact ⟨rfl, rfl, rfl, trivial⟩
    ·
      replace F := ite_n hp8 F
      have hq8 : r4 = false := raw_f hp8
      refine CW.region ?_
      refine LW.pure rfl rfl (RV.fieldAddr Tf24_0 rfl) ?_
      refine LW.pure rfl rfl (RV.load1 Tk3 rfl ((H.blk 0 rfl).cells.off 0) rfl) ?_
      refine LW.go rfl rfl (OW.call Tc60 rfl (ref02_within_ok (a0 := a0.nodes) (a1 := (2 : Int)) (a2 := (8 : Int)) hr4) ?_)
      rintro _ w20 ⟨rfl, E17⟩
      refine ⟨_, rfl, ?_⟩
      replace H := H.grow E17
      replace R0 := H.ext
      refine LW.pure rfl rfl (RV.not rfl) ?_
      refine LW.pure rfl rfl (RV.move rfl) ?_
      refine LW.noB rfl rfl rfl rfl (ne_beq (v := true) (not_t hq8) rfl) ?_
      refine LW.noB rfl rfl rfl rfl (ne_beq (v := true) (not_t hq8) rfl) ?_
      refine LW.noB rfl rfl rfl rfl (ne_beq (v := true) (not_t hq8) rfl) ?_
      refine LW.noB rfl rfl rfl rfl (ne_beq (v := true) (not_t hq8) rfl) ?_
      refine LW.noB rfl rfl rfl rfl (ne_beq (v := true) (not_t hq8) rfl) ?_
      refine LW.noB rfl rfl rfl rfl (ne_beq (v := true) (not_t hq8) rfl) ?_
      refine LW.noB rfl rfl rfl rfl (ne_beq (v := true) (not_t hq8) rfl) ?_
      refine LW.pure rfl rfl (RV.pickTB rfl (not_t hq8) rfl) ?_
      refine LW.pure rfl rfl (RV.move rfl) ?_
      refine LW.noB rfl rfl rfl rfl (ne_beq (v := true) rfl rfl) ?_
      refine LW.noB rfl rfl rfl rfl (ne_beq (v := true) rfl rfl) ?_
      refine LW.noB rfl rfl rfl rfl (ne_beq (v := true) rfl rfl) ?_
      refine LW.noB rfl rfl rfl rfl (ne_beq (v := true) rfl rfl) ?_
      refine LW.noB rfl rfl rfl rfl (ne_beq (v := true) rfl rfl) ?_
      refine LW.noB rfl rfl rfl rfl (ne_beq (v := true) rfl rfl) ?_
      refine LW.noB rfl rfl rfl rfl (ne_beq (v := true) rfl rfl) ?_
      refine LW.pure rfl rfl (RV.pickTB rfl rfl rfl) ?_
      refine LW.pure rfl rfl (RV.move rfl) ?_
      refine LW.noB rfl rfl rfl rfl (ne_beq (v := true) rfl rfl) ?_
      refine LW.noB rfl rfl rfl rfl (ne_beq (v := true) rfl rfl) ?_
      refine LW.noB rfl rfl rfl rfl (ne_beq (v := true) rfl rfl) ?_
      refine LW.noB rfl rfl rfl rfl (ne_beq (v := true) rfl rfl) ?_
      refine LW.noB rfl rfl rfl rfl (ne_beq (v := true) rfl rfl) ?_
      refine LW.pure rfl rfl (RV.pickTB rfl rfl rfl) ?_
      refine LW.nil (jK94 _ _ ⟨_, ?_, ⟨true, F, rfl, H⟩⟩)
      exact ⟨rfl, rfl, rfl, trivial⟩
end Go.D2

set_option linter.unusedVariables false
set_option linter.unusedSimpArgs false
namespace Go.D2
open Go.Tb Go.Proofs Go.RowKit
theorem Tc27 : callable Try.prog 27 = true := by kernel_rfl
end Go.D2

set_option linter.unusedVariables false
set_option linter.unusedSimpArgs false
namespace Go.D2
open Go.Tb Go.Proofs Go.RowKit
theorem Tc16 : callable Try.prog 16 = true := by kernel_rfl
theorem Tc17 : callable Try.prog 17 = true := by kernel_rfl
end Go.D2

set_option linter.unusedVariables false
set_option linter.unusedSimpArgs false
namespace Go.D2
open Go.Tb Go.Proofs Go.RowKit
theorem Tc34 : callable Try.prog 34 = true := by kernel_rfl
set_option maxRecDepth 20000 in
set_option maxHeartbeats 1000000 in
theorem ref01_SameInts_ok {a0 : List Int} {a1 : List Int} {A_a0 : Option Addr} {c_a0 : Nat} {A_a1 : Option Addr} {c_a1 : Nat} {w : World} {res : Bool} (h_a0 : Sl w A_a0 c_a0 1 (a0.map encN)) (h_a1 : Sl w A_a1 c_a1 1 (a1.map encN)) (F : ref01_SameInts a0 a1 = some res) : Calls Try.prog 34 #[.slice A_a0 a0.length c_a0, .slice A_a1 a1.length c_a1] w (Rt w (.bool res)) := by
  refine calls_of_cw (args := [.slice A_a0 a0.length c_a0, .slice A_a1 a1.length c_a1]) Try.func34 rfl rfl rfl rfl ?_
  have H := Hp.start w
  have R0 := H.ext
  unfold ref01_SameInts at F
  refine CW.seq fun K1 hK1 => ?_
  refine CW.region ?_
  refine LW.pure rfl rfl (RV.assign rfl) ?_
  refine LW.nil (hK1 _ _ ?_)
  refine CW.seq fun K2 hK2 => ?_
  refine CW.seq fun K3 hK3 => ?_
  refine CW.region ?_
  refine LW.pure rfl rfl (RV.move rfl) ?_
  refine LW.pure rfl rfl (RV.len Ts30 rfl) ?_
  refine LW.pure rfl rfl (RV.move rfl) ?_
  refine LW.pure rfl rfl (RV.len Ts30 rfl) ?_
  refine LW.pure rfl rfl (RV.nei rfl rfl) ?_
  refine LW.nil (hK3 _ _ ?_)
  by_cases hp1 : ((a0.length : Int)) = ((a1.length : Int))
  ·
    replace F := ite_y hp1 F
    have hq1 := dec_t hp1
    refine CW.condF rfl (not_f hq1) ?_
    refine CW.skip (hK2 _ _ ?_)
    refine CW.seqJ (fun ρ wl1 => (ref01_SameInts_k1 = some res ∧ ρ = [(4, .bool false)] ∧ Hp w wl1 [])) ?_ ?_
    ·
      rintro _ wl1 ⟨F, rfl, H⟩
      have R0 := H.ext
      unfold ref01_SameInts_k1 at F
      refine CW.seq fun K4 hK4 => ?_
      refine CW.region ?_
      refine LW.pure rfl rfl (RV.assign rfl) ?_
      refine LW.nil (hK4 _ _ ?_)
      refine CW.ret ?_
      obtain rfl := Option.some.inj F
      refine ⟨_, (ResOK.one rfl), ?_⟩
      refine ⟨(by first | rfl | simp), R0⟩
    ·
      intro K5 hK5 jK59
      refine CW.seq fun K6 hK6 => ?_
      refine CW.region ?_
      refine LW.pure rfl rfl (RV.assign rfl) ?_
      refine LW.nil (hK6 _ _ ?_)
      refine CW.block ?_
      refine CW.loop (fun meas ρ wl2 => ∃ (t5_1 : Int), ref01_SameInts_L1 a0 a1 meas t5_1 = some res ∧ ρ = [(0, .slice A_a0 a0.length c_a0), (1, .slice A_a1 a1.length c_a1), (4, .bool false), (5, .int .i64 t5_1)] ∧ Hp w wl2 []) FU ⟨_, ?_, ((0 : Int)), F, rfl, H⟩ ?_
      · exact ⟨rfl, rfl, rfl, rfl, trivial⟩
      rintro mk1 _ wl2 ⟨t5_1, F, rfl, H⟩
      have R0 := H.ext
      replace F := ref01_SameInts_L1_s F
      obtain ⟨mk1, rfl, F⟩ := F
      generalize hrec1 : ref01_SameInts_L1 a0 a1 mk1 = rec1 at F
      unfold ref01_SameInts_B1 at F
      refine CW.seq fun K7 hK7 => ?_
      refine CW.seq fun K8 hK8 => ?_
      refine CW.region ?_
      refine LW.pure rfl rfl (RV.move rfl) ?_
      refine LW.pure rfl rfl (RV.move rfl) ?_
      refine LW.pure rfl rfl (RV.len Ts30 rfl) ?_
      refine LW.pure rfl rfl (RV.lss rfl rfl) ?_
      refine LW.nil (hK8 _ _ ?_)
      by_cases hp2 : t5_1 < ((a0.length : Int))
      ·
        replace F := ite_y hp2 F
        have hq2 := dec_t hp2
        refine CW.condT rfl hq2 ?_
        refine CW.skip (hK7 _ _ ?_)
        refine CW.seq fun K9 hK9 => ?_
        refine CW.block ?_
        refine CW.seq fun K10 hK10 => ?_
        obtain ⟨x1, hbx1, hx1, F⟩ := ix_some F
        obtain ⟨x2, hbx2, hx2, F⟩ := ix_some F
        refine CW.draw [] (fun _ => True) (.cons 0 1 (.cons 1 1 (.cons 2 1 (.cons 3 1 (.cons 4 1 (.cons 5 1 (.cons 6 1 (.cons 7 1 (.cons 8 1 .nil))))))))) mixed (by kernel_rfl) fun w1 E1 => ?_
        replace H := H.grow E1
        replace R0 := H.ext
        refine DW.fix rfl rfl rfl (fun _ EQ => RV.move rfl) ?_
        refine DW.fix rfl rfl rfl (fun _ EQ => RV.move rfl) ?_
        refine DW.fix rfl rfl rfl (fun _ EQ => RV.indexAddr Ts30 rfl rfl hbx1 (h_a0.addr_ hx1)) ?_
        refine DW.fix rfl rfl rfl (fun _ EQ => RV.load1 Tk3 rfl ((h_a0.at_ hx1).ext (R0.trans EQ)) rfl) ?_
        refine DW.fix rfl rfl rfl (fun _ EQ => RV.move rfl) ?_
        refine DW.fix rfl rfl rfl (fun _ EQ => RV.move rfl) ?_
        refine DW.fix rfl rfl rfl (fun _ EQ => RV.indexAddr Ts30 rfl rfl hbx2 (h_a1.addr_ hx2)) ?_
        refine DW.fix rfl rfl rfl (fun _ EQ => RV.load1 Tk3 rfl ((h_a1.at_ hx2).ext (R0.trans EQ)) rfl) ?_
        refine DW.fix rfl rfl rfl (fun _ EQ => RV.nei rfl rfl) ?_
        refine DW.nil (hK10 _ _ ?_)
        by_cases hp3 : x1 = x2
        ·
          replace F := ite_y hp3 F
          have hq3 := dec_t hp3
          refine CW.condF rfl (not_f hq3) ?_
          refine CW.skip (hK9 _ _ ?_)
          obtain ⟨hg1, F⟩ := gd_some F
          refine CW.region ?_
          refine LW.pure rfl rfl (RV.move rfl) ?_
          refine LW.pure rfl rfl (RV.add rfl rfl hg1) ?_
          refine LW.pure rfl rfl (RV.assign rfl) ?_
          refine LW.nil ?_
          subst hrec1
          refine ⟨mk1, Nat.lt_succ_self _, _, ?_, (t5_1 + 1), F, rfl, H⟩
          exact ⟨rfl, rfl, rfl, rfl, trivial⟩
        ·
          replace F := ite_n hp3 F
          have hq3 := dec_f hp3
          refine CW.condT rfl (not_t hq3) ?_
          refine CW.seq fun K11 hK11 => ?_
          refine CW.region ?_
          refine LW.pure rfl rfl (RV.assign rfl) ?_
          refine LW.nil (hK11 _ _ ?_)
          refine CW.ret ?_
          obtain rfl := Option.some.inj F
          refine ⟨_, (ResOK.one rfl), ?_⟩
          refine ⟨(by first | rfl | simp), R0⟩
      ·
        replace F := ite_n hp2 F
        have hq2 := dec_f hp2
        refine CW.condF rfl hq2 ?_
        refine CW.exit (jK59 _ _ ⟨_, ?_, ⟨F, rfl, H⟩⟩)
        exact ⟨rfl, trivial⟩
  ·
    replace F := ite_n hp1 F
    have hq1 := dec_f hp1
    refine CW.condT rfl (not_t hq1) ?_
    refine CW.seq fun K12 hK12 => ?_
    refine CW.region ?_
    refine LW.pure rfl rfl (RV.assign rfl) ?_
    refine LW.nil (hK12 _ _ ?_)
    refine CW.ret ?_
    obtain rfl := Option.some.inj F
    refine ⟨_, (ResOK.one rfl), ?_⟩
    refine ⟨(by first | rfl | simp), R0⟩
end Go.D2

set_option linter.unusedVariables false
set_option linter.unusedSimpArgs false
namespace Go.D2
open Go.Tb Go.Proofs Go.RowKit
theorem Tc77 : callable Try.prog 77 = true := by kernel_rfl
theorem Tf79_0 : tyF Try.prog 79 0 = some 0 := by kernel_rfl
theorem Tf79_1 : tyF Try.prog 79 1 = some 1 := by kernel_rfl
theorem Tk30 : tyK Try.prog 30 = some (false, 1) := by kernel_rfl
theorem Tk79 : tyK Try.prog 79 = some (true, 2) := by kernel_rfl
theorem Ts45 : tyS Try.prog 45 = some (79, 2, 32, [.slice none 0 0, .int .i64 0]) := by kernel_rfl
theorem Tz79 : tyZ Try.prog 79 = some (.agg #[.slice none 0 0, .int .i64 0]) := by kernel_rfl
set_option maxRecDepth 20000 in
set_option maxHeartbeats 1000000 in
theorem law02_many_ok {a0 : List Trail} {A_a0 : Option Addr} {c_a0 : Nat} {w : World} {res : Bool} (h_a0 : SlT w A_a0 c_a0 2 encTrail (fun x => x.drains) 1 encN a0) (F : law02_many a0 = some res) : Calls Try.prog 37 #[.slice A_a0 a0.length c_a0] w (Rt w (.bool res)) := by
  refine calls_of_cw (args := [.slice A_a0 a0.length c_a0]) Try.func37 rfl rfl rfl rfl ?_
  have H := Hp.start w
  have R0 := H.ext
  unfold law02_many at F
  refine CW.seq fun K1 hK1 => ?_
  refine CW.region ?_
  refine LW.pure rfl rfl (RV.assign rfl) ?_
  refine LW.nil (hK1 _ _ ?_)
  refine CW.seq fun K2 hK2 => ?_
  refine CW.seq fun K3 hK3 => ?_
  refine CW.region ?_
  refine LW.pure rfl rfl (RV.move rfl) ?_
  refine LW.pure rfl rfl (RV.len Ts45 rfl) ?_
  refine LW.pure rfl rfl (RV.gtr rfl rfl) ?_
  refine LW.nil (hK3 _ _ ?_)
  by_cases hp1 : (100 : Int) < ((a0.length : Int))
  ·
    replace F := ite_y hp1 F
    have hq1 := dec_t hp1
    refine CW.condT rfl hq1 ?_
    refine CW.seq fun K4 hK4 => ?_
    refine CW.region ?_
    refine LW.pure rfl rfl (RV.assign rfl) ?_
    refine LW.nil (hK4 _ _ ?_)
    refine CW.ret ?_
    obtain rfl := Option.some.inj F
    refine ⟨_, (ResOK.one rfl), ?_⟩
    refine ⟨(by first | rfl | simp), R0⟩
  ·
    replace F := ite_n hp1 F
    have hq1 := dec_f hp1
    refine CW.condF rfl hq1 ?_
    refine CW.skip (hK2 _ _ ?_)
    refine CW.seqJ (fun ρ wl1 => (law02_many_k1 = some res ∧ ρ = [(2, .bool false)] ∧ Hp w wl1 [])) ?_ ?_
    ·
      rintro _ wl1 ⟨F, rfl, H⟩
      have R0 := H.ext
      unfold law02_many_k1 at F
      refine CW.seq fun K5 hK5 => ?_
      refine CW.region ?_
      refine LW.pure rfl rfl (RV.assign rfl) ?_
      refine LW.nil (hK5 _ _ ?_)
      refine CW.ret ?_
      obtain rfl := Option.some.inj F
      refine ⟨_, (ResOK.one rfl), ?_⟩
      refine ⟨(by first | rfl | simp), R0⟩
    ·
      intro K6 hK6 jK60
      refine CW.seq fun K7 hK7 => ?_
      refine CW.region ?_
      refine LW.pure rfl rfl (RV.assign rfl) ?_
      refine LW.nil (hK7 _ _ ?_)
      refine CW.block ?_
      refine CW.loop (fun meas ρ wl2 => ∃ (t3_1 : Int), law02_many_L1 a0 meas t3_1 = some res ∧ ρ = [(0, .slice A_a0 a0.length c_a0), (2, .bool false), (3, .int .i64 t3_1)] ∧ Hp w wl2 []) FU ⟨_, ?_, ((0 : Int)), F, rfl, H⟩ ?_
      · exact ⟨rfl, rfl, rfl, trivial⟩
      rintro mk1 _ wl2 ⟨t3_1, F, rfl, H⟩
      have R0 := H.ext
      replace F := law02_many_L1_s F
      obtain ⟨mk1, rfl, F⟩ := F
      generalize hrec1 : law02_many_L1 a0 mk1 = rec1 at F
      unfold law02_many_B1 at F
      refine CW.seq fun K8 hK8 => ?_
      refine CW.seq fun K9 hK9 => ?_
      refine CW.region ?_
      refine LW.pure rfl rfl (RV.move rfl) ?_
      refine LW.pure rfl rfl (RV.move rfl) ?_
      refine LW.pure rfl rfl (RV.len Ts45 rfl) ?_
      refine LW.pure rfl rfl (RV.lss rfl rfl) ?_
      refine LW.nil (hK9 _ _ ?_)
      by_cases hp2 : t3_1 < ((a0.length : Int))
      ·
        replace F := ite_y hp2 F
        have hq2 := dec_t hp2
        refine CW.condT rfl hq2 ?_
        refine CW.skip (hK8 _ _ ?_)
        refine CW.seq fun K10 hK10 => ?_
        refine CW.block ?_
        refine CW.seq fun K11 hK11 => ?_
        obtain ⟨x1, hbx1, hx1, F⟩ := ix_some F
        refine CW.region ?_
        refine LW.pure rfl rfl (RV.move rfl) ?_
        refine LW.pure rfl rfl (RV.move rfl) ?_
        obtain ⟨A1, c1, hC1, hS1⟩ := h_a0.at_ hx1
        refine LW.pure rfl rfl (RV.indexAddr Ts45 rfl rfl hbx1 (h_a0.addr hbx1)) ?_
        refine LW.pure rfl rfl (RV.fieldAddr Tf79_0 rfl) ?_
        refine LW.pure rfl rfl (RV.load1 Tk30 rfl ((hC1.ext R0).off 0) rfl) ?_
        refine LW.pure rfl rfl (RV.len Ts30 rfl) ?_
        refine LW.pure rfl rfl (RV.gtr rfl rfl) ?_
        refine LW.nil (hK11 _ _ ?_)
        by_cases hp3 : (100 : Int) < ((x1.drains.length : Int))
        ·
          replace F := ite_y hp3 F
          have hq3 := dec_t hp3
          refine CW.condT rfl hq3 ?_
          refine CW.seq fun K12 hK12 => ?_
          refine CW.region ?_
          refine LW.pure rfl rfl (RV.assign rfl) ?_
          refine LW.nil (hK12 _ _ ?_)
          refine CW.ret ?_
          obtain rfl := Option.some.inj F
          refine ⟨_, (ResOK.one rfl), ?_⟩
          refine ⟨(by first | rfl | simp), R0⟩
        ·
          replace F := ite_n hp3 F
          have hq3 := dec_f hp3
          refine CW.condF rfl hq3 ?_
          refine CW.skip (hK10 _ _ ?_)
          obtain ⟨hg1, F⟩ := gd_some F
          refine CW.region ?_
          refine LW.pure rfl rfl (RV.move rfl) ?_
          refine LW.pure rfl rfl (RV.add rfl rfl hg1) ?_
          refine LW.pure rfl rfl (RV.assign rfl) ?_
          refine LW.nil ?_
          subst hrec1
          refine ⟨mk1, Nat.lt_succ_self _, _, ?_, (t3_1 + 1), F, rfl, H⟩
          exact ⟨rfl, rfl, rfl, trivial⟩
      ·
        replace F := ite_n hp2 F
        have hq2 := dec_f hp2
        refine CW.condF rfl hq2 ?_
        refine CW.exit (jK60 _ _ ⟨_, ?_, ⟨F, rfl, H⟩⟩)
        exact ⟨rfl, trivial⟩
set_option maxRecDepth 20000 in
set_option maxHeartbeats 1000000 in
theorem drain_isTrail_ok {a0 : Net} {a1 : Trail} {A_a0_drains : Option Addr} {c_a0_drains : Nat} {A_a1_drains : Option Addr} {c_a1_drains : Nat} {w : World} {res : Bool} (h_a0_drains : Sl w A_a0_drains c_a0_drains 3 (a0.drains.map encDrain)) (h_a1_drains : Sl w A_a1_drains c_a1_drains 1 (a1.drains.map encN)) (F : drain_isTrail a0 a1 = some res) : Calls Try.prog 77 #[.agg #[.int .i64 a0.nodes, .int .i64 a0.from_, .int .i64 a0.to_, .slice A_a0_drains a0.drains.length c_a0_drains], .agg #[.slice A_a1_drains a1.drains.length c_a1_drains, .int .i64 a1.amount]] w (Rt w (.bool res)) := by
  refine calls_of_cw (args := [.agg #[.int .i64 a0.nodes, .int .i64 a0.from_, .int .i64 a0.to_, .slice A_a0_drains a0.drains.length c_a0_drains], .agg #[.slice A_a1_drains a1.drains.length c_a1_drains, .int .i64 a1.amount]]) Try.func77 rfl rfl rfl rfl ?_
  have H := Hp.start w
  have R0 := H.ext
  unfold drain_isTrail at F
  refine CW.seq fun K1 hK1 => ?_
  refine CW.region ?_
  refine LW.go rfl rfl (OW.box rfl fun b1 w1 N1 => ?_)
  replace H := H.new N1 N1.blk
  replace R0 := H.ext
  refine LW.go rfl rfl (OW.box rfl fun b2 w2 N2 => ?_)
  replace H := H.new N2 N2.blk
  replace R0 := H.ext
  refine LW.pure rfl rfl (RV.assign rfl) ?_
  refine LW.nil (hK1 _ _ ?_)
  refine CW.seq fun K2 hK2 => ?_
  refine CW.seqJ (fun ρ wl1 => (∃ (t18_1 : Bool), drain_isTrail_k3 a0 a1 t18_1 = some res ∧ ρ = [(2, .pointer (some (⟨b1, 0, none⟩))), (3, .pointer (some (⟨b2, 0, none⟩))), (4, .bool false), (18, .bool t18_1)] ∧ Hp w wl1 [.blk b1 24 [.int .i64 a0.nodes, .int .i64 a0.from_, .int .i64 a0.to_, .slice A_a0_drains a0.drains.length c_a0_drains], .blk b2 79 [.slice A_a1_drains a1.drains.length c_a1_drains, .int .i64 a1.amount]])) ?_ ?_
  ·
    rintro _ wl1 ⟨t18_1, F, rfl, H⟩
    have R0 := H.ext
    unfold drain_isTrail_k3 at F
    by_cases hp1 : t18_1 = true
    ·
      replace F := ite_y hp1 F
      have hq1 : t18_1 = true := hp1
      refine CW.condT rfl hq1 ?_
      refine CW.seq fun K3 hK3 => ?_
      refine CW.region ?_
      refine LW.pure rfl rfl (RV.assign rfl) ?_
      refine LW.nil (hK3 _ _ ?_)
      refine CW.ret ?_
      obtain rfl := Option.some.inj F
      refine ⟨_, (ResOK.one rfl), ?_⟩
      refine ⟨(by first | rfl | simp), R0⟩
    ·
      replace F := ite_n hp1 F
      have hq1 : t18_1 = false := raw_f hp1
      refine CW.condF rfl hq1 ?_
      refine CW.skip (hK2 _ _ ?_)
      refine CW.seqJ (fun ρ wl2 => (drain_isTrail_k1 a0 a1 = some res ∧ ρ = [(2, .pointer (some (⟨b1, 0, none⟩))), (3, .pointer (some (⟨b2, 0, none⟩))), (4, .bool false)] ∧ Hp w wl2 [.blk b1 24 [.int .i64 a0.nodes, .int .i64 a0.from_, .int .i64 a0.to_, .slice A_a0_drains a0.drains.length c_a0_drains], .blk b2 79 [.slice A_a1_drains a1.drains.length c_a1_drains, .int .i64 a1.amount]])) ?_ ?_
      ·
        rintro _ wl2 ⟨F, rfl, H⟩
        have R0 := H.ext
        unfold drain_isTrail_k1 at F
        refine CW.seq fun K4 hK4 => ?_
        obtain ⟨x1, hbx1, hx1, F⟩ := ix_some F
        obtain ⟨x2, hbx2, hx2, F⟩ := ix_some F
        obtain ⟨hg1, F⟩ := gd_some F
        obtain ⟨x3, hbx3, hx3, F⟩ := ix_some F
        obtain ⟨x4, hbx4, hx4, F⟩ := ix_some F
        refine CW.draw [] (fun _ => True) (.cons 0 1 (.cons 1 1 (.cons 2 1 (.cons 3 1 (.cons 4 1 (.cons 5 1 (.cons 6 1 (.cons 7 1 (.cons 8 1 (.cons 9 1 (.cons 10 1 (.cons 11 1 (.cons 12 1 (.cons 13 1 (.cons 14 1 (.cons 15 1 (.cons 16 1 (.cons 17 1 (.cons 18 1 (.cons 19 1 (.cons 20 1 (.cons 21 1 (.cons 22 1 (.cons 23 1 .nil)))))))))))))))))))))))) mixed (by kernel_rfl) fun w3 E1 => ?_
        replace H := H.grow E1
        replace R0 := H.ext
        refine DW.fix rfl rfl rfl (fun _ EQ => RV.fieldAddr Tf24_3 rfl) ?_
        refine DW.fix rfl rfl rfl (fun _ EQ => RV.load1 Tk22 rfl (((H.grow EQ).blk 0 rfl).cells.off 3) rfl) ?_
        refine DW.fix rfl rfl rfl (fun _ EQ => RV.fieldAddr Tf79_0 rfl) ?_
        refine DW.fix rfl rfl rfl (fun _ EQ => RV.load1 Tk30 rfl (((H.grow EQ).blk 1 rfl).cells.off 0) rfl) ?_
        refine DW.fix rfl rfl rfl (fun _ EQ => RV.indexAddr Ts30 rfl rfl hbx1 (h_a1_drains.addr_ hx1)) ?_
        refine DW.fix rfl rfl rfl (fun _ EQ => RV.load1 Tk3 rfl ((h_a1_drains.at_ hx1).ext (R0.trans EQ)) rfl) ?_
        refine DW.fix rfl rfl rfl (fun _ EQ => RV.indexAddr Ts22 rfl rfl hbx2 (h_a0_drains.addr_ hx2)) ?_
        refine DW.fix rfl rfl rfl (fun _ EQ => RV.fieldAddr Tf52_0 rfl) ?_
        refine DW.fix rfl rfl rfl (fun _ EQ => RV.load1 Tk3 rfl (((h_a0_drains.at_ hx2).ext (R0.trans EQ)).off 0) rfl) ?_
        refine DW.fix rfl rfl rfl (fun _ EQ => RV.fieldAddr Tf24_3 rfl) ?_
        refine DW.fix rfl rfl rfl (fun _ EQ => RV.load1 Tk22 rfl (((H.grow EQ).blk 0 rfl).cells.off 3) rfl) ?_
        refine DW.fix rfl rfl rfl (fun _ EQ => RV.fieldAddr Tf79_0 rfl) ?_
        refine DW.fix rfl rfl rfl (fun _ EQ => RV.load1 Tk30 rfl (((H.grow EQ).blk 1 rfl).cells.off 0) rfl) ?_
        refine DW.fix rfl rfl rfl (fun _ EQ => RV.fieldAddr Tf79_0 rfl) ?_
        refine DW.fix rfl rfl rfl (fun _ EQ => RV.load1 Tk30 rfl (((H.grow EQ).blk 1 rfl).cells.off 0) rfl) ?_
        refine DW.fix rfl rfl rfl (fun _ EQ => RV.len Ts30 rfl) ?_
        refine DW.fix rfl rfl rfl (fun _ EQ => RV.sub rfl rfl hg1) ?_
        refine DW.fix rfl rfl rfl (fun _ EQ => RV.indexAddr Ts30 rfl rfl hbx3 (h_a1_drains.addr_ hx3)) ?_
        refine DW.fix rfl rfl rfl (fun _ EQ => RV.load1 Tk3 rfl ((h_a1_drains.at_ hx3).ext (R0.trans EQ)) rfl) ?_
        refine DW.fix rfl rfl rfl (fun _ EQ => RV.indexAddr Ts22 rfl rfl hbx4 (h_a0_drains.addr_ hx4)) ?_
        refine DW.fix rfl rfl rfl (fun _ EQ => RV.fieldAddr Tf52_1 rfl) ?_
        refine DW.fix rfl rfl rfl (fun _ EQ => RV.load1 Tk3 rfl (((h_a0_drains.at_ hx4).ext (R0.trans EQ)).off 1) rfl) ?_
        refine DW.fix rfl rfl rfl (fun _ EQ => RV.assign rfl) ?_
        refine DW.fix rfl rfl rfl (fun _ EQ => RV.assign rfl) ?_
        refine DW.nil (hK4 _ _ ?_)
        refine CW.seq fun K5 hK5 => ?_
        by_cases hp2 : x2.from_ = x4.to_
        ·
          replace F := ite_y hp2 F
          have hq2 := dec_t hp2
          refine CW.region ?_
          refine LW.pure rfl rfl (RV.move rfl) ?_
          refine LW.pure rfl rfl (RV.move rfl) ?_
          refine LW.pure rfl rfl (RV.eqi rfl rfl) ?_
          refine LW.pure rfl rfl (RV.move rfl) ?_
          refine LW.noB rfl rfl rfl rfl (ne_beq (v := true) hq2 rfl) ?_
          refine LW.noB rfl rfl rfl rfl (ne_beq (v := true) hq2 rfl) ?_
          refine LW.noB rfl rfl rfl rfl (ne_beq (v := true) hq2 rfl) ?_
          refine LW.noB rfl rfl rfl rfl (ne_beq (v := true) hq2 rfl) ?_
          refine LW.noB rfl rfl rfl rfl (ne_beq (v := true) hq2 rfl) ?_
          refine LW.noU rfl rfl rfl rfl ?_
          refine LW.noU rfl rfl rfl rfl ?_
          refine LW.noU rfl rfl rfl rfl ?_
          refine LW.noU rfl rfl rfl rfl ?_
          refine LW.noB rfl rfl rfl rfl (ne_beq (v := true) hq2 rfl) ?_
          refine LW.pure rfl rfl (RV.pickTB rfl hq2 rfl) ?_
          refine LW.pure rfl rfl (RV.assign rfl) ?_
          refine LW.nil (hK5 _ _ ?_)
          refine CW.ret ?_
          obtain rfl := Option.some.inj F
          refine ⟨_, (ResOK.one rfl), ?_⟩
          refine ⟨(by first | rfl | simp), R0⟩
        ·
          replace F := ite_n hp2 F
          have hq2 := dec_f hp2
          by_cases hp3 : x2.from_ = a0.from_
          ·
            replace F := ite_y hp3 F
            have hq3 := dec_t hp3
            refine CW.region ?_
            refine LW.pure rfl rfl (RV.move rfl) ?_
            refine LW.pure rfl rfl (RV.move rfl) ?_
            refine LW.pure rfl rfl (RV.eqi rfl rfl) ?_
            refine LW.pure rfl rfl (RV.move rfl) ?_
            refine LW.pureYB rfl rfl rfl rfl hq2 (RV.move rfl) ?_
            refine LW.pureYB rfl rfl rfl rfl hq2 (RV.fieldAddr Tf24_1 rfl) ?_
            refine LW.pureYB rfl rfl rfl rfl hq2 (RV.load1 Tk3 rfl ((H.blk 0 rfl).cells.off 1) rfl) ?_
            refine LW.pureYB rfl rfl rfl rfl hq2 (RV.eqi rfl rfl) ?_
            refine LW.pureYB rfl rfl rfl rfl hq2 (RV.move rfl) ?_
            refine LW.pureYB rfl rfl rfl rfl hq3 (RV.move rfl) ?_
            refine LW.pureYB rfl rfl rfl rfl hq3 (RV.fieldAddr Tf24_2 rfl) ?_
            refine LW.pureYB rfl rfl rfl rfl hq3 (RV.load1 Tk3 rfl ((H.blk 0 rfl).cells.off 2) rfl) ?_
            refine LW.pureYB rfl rfl rfl rfl hq3 (RV.eqi rfl rfl) ?_
            refine LW.pureYB rfl rfl rfl rfl hq2 (RV.pickTB rfl hq3 rfl) ?_
            refine LW.pure rfl rfl (RV.pickFB rfl hq2 rfl) ?_
            refine LW.pure rfl rfl (RV.assign rfl) ?_
            refine LW.nil (hK5 _ _ ?_)
            refine CW.ret ?_
            obtain rfl := Option.some.inj F
            refine ⟨_, (ResOK.one rfl), ?_⟩
            refine ⟨(by first | rfl | simp), R0⟩
          ·
            replace F := ite_n hp3 F
            have hq3 := dec_f hp3
            refine CW.region ?_
            refine LW.pure rfl rfl (RV.move rfl) ?_
            refine LW.pure rfl rfl (RV.move rfl) ?_
            refine LW.pure rfl rfl (RV.eqi rfl rfl) ?_
            refine LW.pure rfl rfl (RV.move rfl) ?_
            refine LW.pureYB rfl rfl rfl rfl hq2 (RV.move rfl) ?_
            refine LW.pureYB rfl rfl rfl rfl hq2 (RV.fieldAddr Tf24_1 rfl) ?_
            refine LW.pureYB rfl rfl rfl rfl hq2 (RV.load1 Tk3 rfl ((H.blk 0 rfl).cells.off 1) rfl) ?_
            refine LW.pureYB rfl rfl rfl rfl hq2 (RV.eqi rfl rfl) ?_
            refine LW.pureYB rfl rfl rfl rfl hq2 (RV.move rfl) ?_
            refine LW.noB rfl rfl rfl rfl (ne_beq (v := false) hq3 rfl) ?_
            refine LW.noB rfl rfl rfl rfl (ne_beq (v := false) hq3 rfl) ?_
            refine LW.noB rfl rfl rfl rfl (ne_beq (v := false) hq3 rfl) ?_
            refine LW.noB rfl rfl rfl rfl (ne_beq (v := false) hq3 rfl) ?_
            refine LW.pureYB rfl rfl rfl rfl hq2 (RV.pickFB rfl hq3 rfl) ?_
            refine LW.pure rfl rfl (RV.pickFB rfl hq2 rfl) ?_
            refine LW.pure rfl rfl (RV.assign rfl) ?_
            refine LW.nil (hK5 _ _ ?_)
            refine CW.ret ?_
            obtain rfl := Option.some.inj F
            refine ⟨_, (ResOK.one rfl), ?_⟩
            refine ⟨(by first | rfl | simp), R0⟩
      ·
        intro K6 hK6 jK70
        refine CW.seq fun K7 hK7 => ?_
        refine CW.region ?_
        refine LW.pure rfl rfl (RV.fieldAddr Tf79_0 rfl) ?_
        refine LW.pure rfl rfl (RV.load1 Tk30 rfl ((H.blk 1 rfl).cells.off 0) rfl) ?_
        refine LW.pure rfl rfl (RV.len Ts30 rfl) ?_
        refine LW.pure rfl rfl (RV.move rfl) ?_
        refine LW.nil (hK7 _ _ ?_)
        refine CW.block ?_
        refine CW.loop (fun meas ρ wl3 => ∃ (t22_1 : Int), drain_isTrail_L1 a0 a1 meas t22_1 = some res ∧ ρ = [(2, .pointer (some (⟨b1, 0, none⟩))), (3, .pointer (some (⟨b2, 0, none⟩))), (4, .bool false), (20, .slice A_a1_drains a1.drains.length c_a1_drains), (21, .int .i64 ((a1.drains.length : Int))), (22, .int .i64 t22_1)] ∧ Hp w wl3 [.blk b1 24 [.int .i64 a0.nodes, .int .i64 a0.from_, .int .i64 a0.to_, .slice A_a0_drains a0.drains.length c_a0_drains], .blk b2 79 [.slice A_a1_drains a1.drains.length c_a1_drains, .int .i64 a1.amount]]) FU ⟨_, ?_, ((0 : Int)), F, rfl, H⟩ ?_
        · exact ⟨rfl, rfl, rfl, rfl, rfl, rfl, trivial⟩
        rintro mk1 _ wl3 ⟨t22_1, F, rfl, H⟩
        have R0 := H.ext
        replace F := drain_isTrail_L1_s F
        obtain ⟨mk1, rfl, F⟩ := F
        generalize hrec1 : drain_isTrail_L1 a0 a1 mk1 = rec1 at F
        unfold drain_isTrail_B1 at F
        refine CW.seq fun K8 hK8 => ?_
        refine CW.region ?_
        refine LW.pure rfl rfl (RV.lss rfl rfl) ?_
        refine LW.nil (hK8 _ _ ?_)
        refine CW.seq fun K9 hK9 => ?_
        by_cases hp4 : t22_1 < ((a1.drains.length : Int))
        ·
          replace F := ite_y hp4 F
          have hq4 := dec_t hp4
          refine CW.condT rfl hq4 ?_
          refine CW.skip (hK9 _ _ ?_)
          refine CW.seq fun K10 hK10 => ?_
          refine CW.block ?_
          refine CW.seq fun K11 hK11 => ?_
          obtain ⟨x5, hbx5, hx5, F⟩ := ix_some F
          refine CW.region ?_
          refine LW.pure rfl rfl (RV.move rfl) ?_
          refine LW.pure rfl rfl (RV.indexAddr Ts30 rfl rfl hbx5 (h_a1_drains.addr_ hx5)) ?_
          refine LW.pure rfl rfl (RV.load1 Tk3 rfl ((h_a1_drains.at_ hx5).ext R0) rfl) ?_
          refine LW.pure rfl rfl (RV.assign rfl) ?_
          refine LW.pure rfl rfl (RV.assign rfl) ?_
          refine LW.nil (hK11 _ _ ?_)
          refine CW.seqJ (fun ρ wl4 => (∃ (t65_1 : Bool), drain_isTrail_k2 t22_1 rec1 t65_1 = some res ∧ ρ = [(2, .pointer (some (⟨b1, 0, none⟩))), (3, .pointer (some (⟨b2, 0, none⟩))), (4, .bool false), (20, .slice A_a1_drains a1.drains.length c_a1_drains), (21, .int .i64 ((a1.drains.length : Int))), (22, .int .i64 t22_1), (65, .bool t65_1)] ∧ Hp w wl4 [.blk b1 24 [.int .i64 a0.nodes, .int .i64 a0.from_, .int .i64 a0.to_, .slice A_a0_drains a0.drains.length c_a0_drains], .blk b2 79 [.slice A_a1_drains a1.drains.length c_a1_drains, .int .i64 a1.amount]])) ?_ ?_
          ·
            rintro _ wl4 ⟨t65_1, F, rfl, H⟩
            have R0 := H.ext
            unfold drain_isTrail_k2 at F
            by_cases hp5 : t65_1 = true
            ·
              replace F := ite_y hp5 F
              have hq5 : t65_1 = true := hp5
              refine CW.condT rfl hq5 ?_
              refine CW.seq fun K12 hK12 => ?_
              refine CW.region ?_
              refine LW.pure rfl rfl (RV.assign rfl) ?_
              refine LW.nil (hK12 _ _ ?_)
              refine CW.ret ?_
              obtain rfl := Option.some.inj F
              refine ⟨_, (ResOK.one rfl), ?_⟩
              refine ⟨(by first | rfl | simp), R0⟩
            ·
              replace F := ite_n hp5 F
              have hq5 : t65_1 = false := raw_f hp5
              refine CW.condF rfl hq5 ?_
              refine CW.skip (hK10 _ _ ?_)
              obtain ⟨hg2, F⟩ := gd_some F
              refine CW.region ?_
              refine LW.pure rfl rfl (RV.add rfl rfl hg2) ?_
              refine LW.pure rfl rfl (RV.move rfl) ?_
              refine LW.nil ?_
              subst hrec1
              refine ⟨mk1, Nat.lt_succ_self _, _, ?_, (t22_1 + 1), F, rfl, H⟩
              exact ⟨rfl, rfl, rfl, rfl, rfl, rfl, trivial⟩
          ·
            intro K13 hK13 jK89
            obtain ⟨hg3, F⟩ := gd_some F
            obtain ⟨r1, hr1, F⟩ := bnd_some F
            by_cases hp6 : r1 = true
            ·
              replace F := ite_y hp6 F
              have hq6 : r1 = true := hp6
              obtain ⟨hg4, F⟩ := gd_some F
              obtain ⟨r2, hr2, F⟩ := bnd_some F
              by_cases hp7 : r2 = true
              ·
                replace F := ite_y hp7 F
                have hq7 : r2 = true := hp7
                refine CW.draw [] (fun _ => True) (.cons 0 1 (.cons 1 1 (.cons 2 1 (.cons 3 1 (.cons 4 1 (.cons 5 0 (.cons 6 1 (.cons 7 1 (.cons 8 1 (.cons 9 1 (.cons 10 1 (.cons 11 1 (.cons 12 1 (.cons 13 0 (.cons 14 1 (.cons 15 1 (.cons 16 1 (.cons 17 1 (.cons 18 1 (.cons 19 1 (.cons 20 1 (.cons 21 1 (.cons 22 1 (.cons 23 1 (.cons 24 1 (.cons 25 1 (.cons 26 1 (.cons 27 1 (.cons 28 1 (.cons 29 1 (.cons 30 1 (.cons 31 1 (.cons 32 1 (.cons 33 1 (.cons 34 1 (.cons 35 1 (.cons 36 1 (.cons 37 1 (.cons 38 1 .nil))))))))))))))))))))))))))))))))))))))) mixed (by kernel_rfl) fun w4 E2 => ?_
                replace H := H.grow E2
                replace R0 := H.ext
                refine DW.fix rfl rfl rfl (fun _ EQ => RV.move rfl) ?_
                refine DW.fix rfl rfl rfl (fun _ EQ => RV.fieldAddr Tf24_3 rfl) ?_
                refine DW.fix rfl rfl rfl (fun _ EQ => RV.load1 Tk22 rfl (((H.grow EQ).blk 0 rfl).cells.off 3) rfl) ?_
                refine DW.fix rfl rfl rfl (fun _ EQ => RV.len Ts22 rfl) ?_
                refine DW.fix rfl rfl rfl (fun _ EQ => RV.sub rfl rfl hg3) ?_
                refine DW.sole rfl rfl rfl (OW.call Tc62 rfl (drain_from_ok (a0 := x5) (a1 := (0 : Int)) (a2 := ((a0.drains.length : Int)) - 1) hr1) ?_)
                rintro _ w5 ⟨rfl, E3⟩
                refine ⟨_, rfl, fun _ => E3, ModX.ext E3, ?_⟩
                replace H := H.grow E3
                replace R0 := H.ext
                refine DW.fix rfl rfl rfl (fun _ EQ => RV.not rfl) ?_
                refine DW.fix rfl rfl rfl (fun _ EQ => RV.move rfl) ?_
                refine DW.fixYB rfl rfl rfl rfl rfl (not_f hq6) (fun _ EQ => RV.fieldAddr Tf79_0 rfl) ?_
                refine DW.fixYB rfl rfl rfl rfl rfl (not_f hq6) (fun _ EQ => RV.load1 Tk30 rfl (((H.grow EQ).blk 1 rfl).cells.off 0) rfl) ?_
                refine DW.fixYB rfl rfl rfl rfl rfl (not_f hq6) (fun _ EQ => RV.move rfl) ?_
                refine DW.fixYB rfl rfl rfl rfl rfl (not_f hq6) (fun _ EQ => RV.cutH (l := a1.drains) Ts30 rfl rfl hg4 (h_a1_drains.ext R0).le rfl) ?_
                refine DW.fixYB rfl rfl rfl rfl rfl (not_f hq6) (fun _ EQ => RV.move rfl) ?_
                refine DW.soleYB rfl rfl rfl rfl rfl (not_f hq6) (OW.call Tc65 rfl (slices_Contains_int_ok (a0 := (List.take (Int.toNat t22_1) a1.drains)) (a1 := x5) ((h_a1_drains.ext R0).cutH hg4) hr2) ?_)
                rintro _ w6 ⟨rfl, E4⟩
                refine ⟨_, rfl, fun _ => E4, ModX.ext E4, ?_⟩
                replace H := H.grow E4
                replace R0 := H.ext
                refine DW.fix rfl rfl rfl (fun _ EQ => RV.pickFB rfl (not_f hq6) rfl) ?_
                refine DW.fix rfl rfl rfl (fun _ EQ => RV.move rfl) ?_
                refine DW.fixNB rfl rfl rfl rfl rfl (ne_beq (v := true) hq7 rfl) ?_
                refine DW.fixNB rfl rfl rfl rfl rfl (ne_beq (v := true) hq7 rfl) ?_
                refine DW.fixNB rfl rfl rfl rfl rfl (ne_beq (v := true) hq7 rfl) ?_
                refine DW.fixNU rfl rfl rfl rfl rfl ?_
                refine DW.fixNU rfl rfl rfl rfl rfl ?_
                refine DW.fixNU rfl rfl rfl rfl rfl ?_
                refine DW.fixNU rfl rfl rfl rfl rfl ?_
                refine DW.fixNU rfl rfl rfl rfl rfl ?_
                refine DW.fixNU rfl rfl rfl rfl rfl ?_
                refine DW.fixNU rfl rfl rfl rfl rfl ?_
                refine DW.fixNU rfl rfl rfl rfl rfl ?_
                refine DW.fixNU rfl rfl rfl rfl rfl ?_
                refine DW.fixNU rfl rfl rfl rfl rfl ?_
                refine DW.fixNU rfl rfl rfl rfl rfl ?_
                refine DW.fixNU rfl rfl rfl rfl rfl ?_
                refine DW.fixNU rfl rfl rfl rfl rfl ?_
                refine DW.fixNU rfl rfl rfl rfl rfl ?_
                refine DW.fixNU rfl rfl rfl rfl rfl ?_
                refine DW.fixNU rfl rfl rfl rfl rfl ?_
                refine DW.fixNU rfl rfl rfl rfl rfl ?_
                refine DW.fixNU rfl rfl rfl rfl rfl ?_
                refine DW.fixNB rfl rfl rfl rfl rfl (ne_beq (v := true) hq7 rfl) ?_
                refine DW.fix rfl rfl rfl (fun _ EQ => RV.pickTB rfl hq7 rfl) ?_
                refine DW.nil (jK89 _ _ ⟨_, ?_, ⟨true, F, rfl, H⟩⟩)
                exact ⟨rfl, rfl, rfl, rfl, rfl, rfl, rfl, trivial⟩
              ·
                replace F := ite_n hp7 F
                have hq7 : r2 = false := raw_f hp7
                by_cases hp8 : (0 : Int) < t22_1
                ·
                  replace F := ite_y hp8 F
                  have hq8 := dec_t hp8
                  obtain ⟨hg5, F⟩ := gd_some F
                  obtain ⟨x6, hbx6, hx6, F⟩ := ix_some F
                  obtain ⟨x7, hbx7, hx7, F⟩ := ix_some F
                  obtain ⟨x8, hbx8, hx8, F⟩ := ix_some F
                  refine CW.draw [] (fun _ => True) (.cons 0 1 (.cons 1 1 (.cons 2 1 (.cons 3 1 (.cons 4 1 (.cons 5 0 (.cons 6 1 (.cons 7 1 (.cons 8 1 (.cons 9 1 (.cons 10 1 (.cons 11 1 (.cons 12 1 (.cons 13 0 (.cons 14 1 (.cons 15 1 (.cons 16 1 (.cons 17 1 (.cons 18 1 (.cons 19 1 (.cons 20 1 (.cons 21 1 (.cons 22 1 (.cons 23 1 (.cons 24 1 (.cons 25 1 (.cons 26 1 (.cons 27 1 (.cons 28 1 (.cons 29 1 (.cons 30 1 (.cons 31 1 (.cons 32 1 (.cons 33 1 (.cons 34 1 (.cons 35 1 (.cons 36 1 (.cons 37 1 (.cons 38 1 .nil))))))))))))))))))))))))))))))))))))))) mixed (by kernel_rfl) fun w7 E5 => ?_
                  replace H := H.grow E5
                  replace R0 := H.ext
                  refine DW.fix rfl rfl rfl (fun _ EQ => RV.move rfl) ?_
                  refine DW.fix rfl rfl rfl (fun _ EQ => RV.fieldAddr Tf24_3 rfl) ?_
                  refine DW.fix rfl rfl rfl (fun _ EQ => RV.load1 Tk22 rfl (((H.grow EQ).blk 0 rfl).cells.off 3) rfl) ?_
                  refine DW.fix rfl rfl rfl (fun _ EQ => RV.len Ts22 rfl) ?_
                  refine DW.fix rfl rfl rfl (fun _ EQ => RV.sub rfl rfl hg3) ?_
                  refine DW.sole rfl rfl rfl (OW.call Tc62 rfl (drain_from_ok (a0 := x5) (a1 := (0 : Int)) (a2 := ((a0.drains.length : Int)) - 1) hr1) ?_)
                  rintro _ w8 ⟨rfl, E6⟩
                  refine ⟨_, rfl, fun _ => E6, ModX.ext E6, ?_⟩
                  replace H := H.grow E6
                  replace R0 := H.ext
                  refine DW.fix rfl rfl rfl (fun _ EQ => RV.not rfl) ?_
                  refine DW.fix rfl rfl rfl (fun _ EQ => RV.move rfl) ?_
                  refine DW.fixYB rfl rfl rfl rfl rfl (not_f hq6) (fun _ EQ => RV.fieldAddr Tf79_0 rfl) ?_
                  refine DW.fixYB rfl rfl rfl rfl rfl (not_f hq6) (fun _ EQ => RV.load1 Tk30 rfl (((H.grow EQ).blk 1 rfl).cells.off 0) rfl) ?_
                  refine DW.fixYB rfl rfl rfl rfl rfl (not_f hq6) (fun _ EQ => RV.move rfl) ?_
                  refine DW.fixYB rfl rfl rfl rfl rfl (not_f hq6) (fun _ EQ => RV.cutH (l := a1.drains) Ts30 rfl rfl hg4 (h_a1_drains.ext R0).le rfl) ?_
                  refine DW.fixYB rfl rfl rfl rfl rfl (not_f hq6) (fun _ EQ => RV.move rfl) ?_
                  refine DW.soleYB rfl rfl rfl rfl rfl (not_f hq6) (OW.call Tc65 rfl (slices_Contains_int_ok (a0 := (List.take (Int.toNat t22_1) a1.drains)) (a1 := x5) ((h_a1_drains.ext R0).cutH hg4) hr2) ?_)
                  rintro _ w9 ⟨rfl, E7⟩
                  refine ⟨_, rfl, fun _ => E7, ModX.ext E7, ?_⟩
                  replace H := H.grow E7
                  replace R0 := H.ext
                  refine DW.fix rfl rfl rfl (fun _ EQ => RV.pickFB rfl (not_f hq6) rfl) ?_
                  refine DW.fix rfl rfl rfl (fun _ EQ => RV.move rfl) ?_
                  refine DW.fixYB rfl rfl rfl rfl rfl hq7 (fun _ EQ => RV.move rfl) ?_
                  refine DW.fixYB rfl rfl rfl rfl rfl hq7 (fun _ EQ => RV.gtr rfl rfl) ?_
                  refine DW.fixYB rfl rfl rfl rfl rfl hq7 (fun _ EQ => RV.move rfl) ?_
                  refine DW.fixYB rfl rfl rfl rfl rfl hq8 (fun _ EQ => RV.fieldAddr Tf24_3 rfl) ?_
                  refine DW.fixYB rfl rfl rfl rfl rfl hq8 (fun _ EQ => RV.load1 Tk22 rfl (((H.grow EQ).blk 0 rfl).cells.off 3) rfl) ?_
                  refine DW.fixYB rfl rfl rfl rfl rfl hq8 (fun _ EQ => RV.fieldAddr Tf79_0 rfl) ?_
                  refine DW.fixYB rfl rfl rfl rfl rfl hq8 (fun _ EQ => RV.load1 Tk30 rfl (((H.grow EQ).blk 1 rfl).cells.off 0) rfl) ?_
                  refine DW.fixYB rfl rfl rfl rfl rfl hq8 (fun _ EQ => RV.move rfl) ?_
                  refine DW.fixYB rfl rfl rfl rfl rfl hq8 (fun _ EQ => RV.sub rfl rfl hg5) ?_
                  refine DW.fixYB rfl rfl rfl rfl rfl hq8 (fun _ EQ => RV.indexAddr Ts30 rfl rfl hbx6 (h_a1_drains.addr_ hx6)) ?_
                  refine DW.fixYB rfl rfl rfl rfl rfl hq8 (fun _ EQ => RV.load1 Tk3 rfl ((h_a1_drains.at_ hx6).ext (R0.trans EQ)) rfl) ?_
                  refine DW.fixYB rfl rfl rfl rfl rfl hq8 (fun _ EQ => RV.indexAddr Ts22 rfl rfl hbx7 (h_a0_drains.addr_ hx7)) ?_
                  refine DW.fixYB rfl rfl rfl rfl rfl hq8 (fun _ EQ => RV.fieldAddr Tf52_1 rfl) ?_
                  refine DW.fixYB rfl rfl rfl rfl rfl hq8 (fun _ EQ => RV.load1 Tk3 rfl (((h_a0_drains.at_ hx7).ext (R0.trans EQ)).off 1) rfl) ?_
                  refine DW.fixYB rfl rfl rfl rfl rfl hq8 (fun _ EQ => RV.fieldAddr Tf24_3 rfl) ?_
                  refine DW.fixYB rfl rfl rfl rfl rfl hq8 (fun _ EQ => RV.load1 Tk22 rfl (((H.grow EQ).blk 0 rfl).cells.off 3) rfl) ?_
                  refine DW.fixYB rfl rfl rfl rfl rfl hq8 (fun _ EQ => RV.move rfl) ?_
                  refine DW.fixYB rfl rfl rfl rfl rfl hq8 (fun _ EQ => RV.indexAddr Ts22 rfl rfl hbx8 (h_a0_drains.addr_ hx8)) ?_
                  refine DW.fixYB rfl rfl rfl rfl rfl hq8 (fun _ EQ => RV.fieldAddr Tf52_0 rfl) ?_
                  refine DW.fixYB rfl rfl rfl rfl rfl hq8 (fun _ EQ => RV.load1 Tk3 rfl (((h_a0_drains.at_ hx8).ext (R0.trans EQ)).off 0) rfl) ?_
                  refine DW.fixYB rfl rfl rfl rfl rfl hq8 (fun _ EQ => RV.nei rfl rfl) ?_
                  refine DW.fixYB rfl rfl rfl rfl rfl hq7 (fun _ EQ => RV.pickTB rfl hq8 rfl) ?_
                  refine DW.fix rfl rfl rfl (fun _ EQ => RV.pickFB rfl hq7 rfl) ?_
                  refine DW.nil (jK89 _ _ ⟨_, ?_, ⟨(!(decide (x7.to_ = x8.from_))), F, rfl, H⟩⟩)
                  exact ⟨rfl, rfl, rfl, rfl, rfl, rfl, rfl, trivial⟩
                ·
                  replace F := ite_n hp8 F
                  have hq8 := dec_f hp8
                  refine CW.draw [] (fun _ => True) (.cons 0 1 (.cons 1 1 (.cons 2 1 (.cons 3 1 (.cons 4 1 (.cons 5 0 (.cons 6 1 (.cons 7 1 (.cons 8 1 (.cons 9 1 (.cons 10 1 (.cons 11 1 (.cons 12 1 (.cons 13 0 (.cons 14 1 (.cons 15 1 (.cons 16 1 (.cons 17 1 (.cons 18 1 (.cons 19 1 (.cons 20 1 (.cons 21 1 (.cons 22 1 (.cons 23 1 (.cons 24 1 (.cons 25 1 (.cons 26 1 (.cons 27 1 (.cons 28 1 (.cons 29 1 (.cons 30 1 (.cons 31 1 (.cons 32 1 (.cons 33 1 (.cons 34 1 (.cons 35 1 (.cons 36 1 (.cons 37 1 (.cons 38 1 .nil))))))))))))))))))))))))))))))))))))))) mixed (by kernel_rfl) fun w10 E8 => ?_
                  replace H := H.grow E8
                  replace R0 := H.ext
                  refine DW.fix rfl rfl rfl (fun _ EQ => RV.move rfl) ?_
                  refine DW.fix rfl rfl rfl (fun _ EQ => RV.fieldAddr Tf24_3 rfl) ?_
                  refine DW.fix rfl rfl rfl (fun _ EQ => RV.load1 Tk22 rfl (((H.grow EQ).blk 0 rfl).cells.off 3) rfl) ?_
                  refine DW.fix rfl rfl rfl (fun _ EQ => RV.len Ts22 rfl) ?_
                  refine DW.fix rfl rfl rfl (fun _ EQ => RV.sub rfl rfl hg3) ?_
                  refine DW.sole rfl rfl rfl (OW.call Tc62 rfl (drain_from_ok (a0 := x5) (a1 := (0 : Int)) (a2 := ((a0.drains.length : Int)) - 1) hr1) ?_)
                  rintro _ w11 ⟨rfl, E9⟩
                  refine ⟨_, rfl, fun _ => E9, ModX.ext E9, ?_⟩
                  replace H := H.grow E9
                  replace R0 := H.ext
                  refine DW.fix rfl rfl rfl (fun _ EQ => RV.not rfl) ?_
                  refine DW.fix rfl rfl rfl (fun _ EQ => RV.move rfl) ?_
                  refine DW.fixYB rfl rfl rfl rfl rfl (not_f hq6) (fun _ EQ => RV.fieldAddr Tf79_0 rfl) ?_
                  refine DW.fixYB rfl rfl rfl rfl rfl (not_f hq6) (fun _ EQ => RV.load1 Tk30 rfl (((H.grow EQ).blk 1 rfl).cells.off 0) rfl) ?_
                  refine DW.fixYB rfl rfl rfl rfl rfl (not_f hq6) (fun _ EQ => RV.move rfl) ?_
                  refine DW.fixYB rfl rfl rfl rfl rfl (not_f hq6) (fun _ EQ => RV.cutH (l := a1.drains) Ts30 rfl rfl hg4 (h_a1_drains.ext R0).le rfl) ?_
                  refine DW.fixYB rfl rfl rfl rfl rfl (not_f hq6) (fun _ EQ => RV.move rfl) ?_
                  refine DW.soleYB rfl rfl rfl rfl rfl (not_f hq6) (OW.call Tc65 rfl (slices_Contains_int_ok (a0 := (List.take (Int.toNat t22_1) a1.drains)) (a1 := x5) ((h_a1_drains.ext R0).cutH hg4) hr2) ?_)
                  rintro _ w12 ⟨rfl, E10⟩
                  refine ⟨_, rfl, fun _ => E10, ModX.ext E10, ?_⟩
                  replace H := H.grow E10
                  replace R0 := H.ext
                  refine DW.fix rfl rfl rfl (fun _ EQ => RV.pickFB rfl (not_f hq6) rfl) ?_
                  refine DW.fix rfl rfl rfl (fun _ EQ => RV.move rfl) ?_
                  refine DW.fixYB rfl rfl rfl rfl rfl hq7 (fun _ EQ => RV.move rfl) ?_
                  refine DW.fixYB rfl rfl rfl rfl rfl hq7 (fun _ EQ => RV.gtr rfl rfl) ?_
                  refine DW.fixYB rfl rfl rfl rfl rfl hq7 (fun _ EQ => RV.move rfl) ?_
                  refine DW.fixNB rfl rfl rfl rfl rfl (ne_beq (v := false) hq8 rfl) ?_
                  refine DW.fixNB rfl rfl rfl rfl rfl (ne_beq (v := false) hq8 rfl) ?_
                  refine DW.fixNB rfl rfl rfl rfl rfl (ne_beq (v := false) hq8 rfl) ?_
                  refine DW.fixNB rfl rfl rfl rfl rfl (ne_beq (v := false) hq8 rfl) ?_
                  refine DW.fixNB rfl rfl rfl rfl rfl (ne_beq (v := false) hq8 rfl) ?_
                  refine DW.fixNB rfl rfl rfl rfl rfl (ne_beq (v := false) hq8 rfl) ?_
                  refine DW.fixNB rfl rfl rfl rfl rfl (ne_beq (v := false) hq8 rfl) ?_
                  refine DW.fixNB rfl rfl rfl rfl rfl (ne_beq (v := false) hq8 rfl) ?_
                  refine DW.fixNB rfl rfl rfl rfl rfl (ne_beq (v := false) hq8 rfl) ?_
                  refine DW.fixNB rfl rfl rfl rfl rfl (ne_beq (v := false) hq8 rfl) ?_
                  refine DW.fixNB rfl rfl rfl rfl rfl (ne_beq (v := false) hq8 rfl) ?_
                  refine DW.fixNB rfl rfl rfl rfl rfl (ne_beq (v := false) hq8 rfl) ?_
                  refine DW.fixNB rfl rfl rfl rfl rfl (ne_beq (v := false) hq8 rfl) ?_
                  refine DW.fixNB rfl rfl rfl rfl rfl (ne_beq (v := false) hq8 rfl) ?_
                  refine DW.fixNB rfl rfl rfl rfl rfl (ne_beq (v := false) hq8 rfl) ?_
                  refine DW.fixNB rfl rfl rfl rfl rfl (ne_beq (v := false) hq8 rfl) ?_
                  refine DW.fixNB rfl rfl rfl rfl rfl (ne_beq (v := false) hq8 rfl) ?_
                  refine DW.fixNB rfl rfl rfl rfl rfl (ne_beq (v := false) hq8 rfl) ?_
                  refine DW.fixYB rfl rfl rfl rfl rfl hq7 (fun _ EQ => RV.pickFB rfl hq8 rfl) ?_
                  refine DW.fix rfl rfl rfl (fun _ EQ => RV.pickFB rfl hq7 rfl) ?_
                  refine DW.nil (jK89 _ _ ⟨_, ?_, ⟨false, F, rfl, H⟩⟩)
                  exact ⟨rfl, rfl, rfl, rfl, rfl, rfl, rfl, trivial⟩
            ·
              replace F := ite_n hp6 F
              have hq6 : r1 = false := raw_f hp6
              refine CW.draw [] (fun _ => True) (.cons 0 1 (.cons 1 1 (.cons 2 1 (.cons 3 1 (.cons 4 1 (.cons 5 0 (.cons 6 1 (.cons 7 1 (.cons 8 1 (.cons 9 1 (.cons 10 1 (.cons 11 1 (.cons 12 1 (.cons 13 0 (.cons 14 1 (.cons 15 1 (.cons 16 1 (.cons 17 1 (.cons 18 1 (.cons 19 1 (.cons 20 1 (.cons 21 1 (.cons 22 1 (.cons 23 1 (.cons 24 1 (.cons 25 1 (.cons 26 1 (.cons 27 1 (.cons 28 1 (.cons 29 1 (.cons 30 1 (.cons 31 1 (.cons 32 1 (.cons 33 1 (.cons 34 1 (.cons 35 1 (.cons 36 1 (.cons 37 1 (.cons 38 1 .nil))))))))))))))))))))))))))))))))))))))) mixed (by kernel_rfl) fun w13 E11 => ?_
              replace H := H.grow E11
              replace R0 := H.ext
              refine DW.fix rfl rfl rfl (fun _ EQ => RV.move rfl) ?_
              refine DW.fix rfl rfl rfl (fun _ EQ => RV.fieldAddr Tf24_3 rfl) ?_
              refine DW.fix rfl rfl rfl (fun _ EQ => RV.load1 Tk22 rfl (((H.grow EQ).blk 0 rfl).cells.off 3) rfl) ?_
              refine DW.fix rfl rfl rfl (fun _ EQ => RV.len Ts22 rfl) ?_
              refine DW.fix rfl rfl rfl (fun _ EQ => RV.sub rfl rfl hg3) ?_
              refine DW.sole rfl rfl rfl (OW.call Tc62 rfl (drain_from_ok (a0 := x5) (a1 := (0 : Int)) (a2 := ((a0.drains.length : Int)) - 1) hr1) ?_)
              rintro _ w14 ⟨rfl, E12⟩
              refine ⟨_, rfl, fun _ => E12, ModX.ext E12, ?_⟩
              replace H := H.grow E12
              replace R0 := H.ext
              refine DW.fix rfl rfl rfl (fun _ EQ => RV.not rfl) ?_
              refine DW.fix rfl rfl rfl (fun _ EQ => RV.move rfl) ?_
              refine DW.fixNB rfl rfl rfl rfl rfl (ne_beq (v := true) (not_t hq6) rfl) ?_
              refine DW.fixNB rfl rfl rfl rfl rfl (ne_beq (v := true) (not_t hq6) rfl) ?_
              refine DW.fixNB rfl rfl rfl rfl rfl (ne_beq (v := true) (not_t hq6) rfl) ?_
              refine DW.fixNB rfl rfl rfl rfl rfl (ne_beq (v := true) (not_t hq6) rfl) ?_
              refine DW.fixNB rfl rfl rfl rfl rfl (ne_beq (v := true) (not_t hq6) rfl) ?_
              refine DW.soleNB rfl rfl rfl rfl rfl (ne_beq (v := true) (not_t hq6) rfl) ?_
              refine DW.fix rfl rfl rfl (fun _ EQ => RV.pickTB rfl (not_t hq6) rfl) ?_
              refine DW.fix rfl rfl rfl (fun _ EQ => RV.move rfl) ?_
              refine DW.fixNB rfl rfl rfl rfl rfl (ne_beq (v := true) rfl rfl) ?_
              refine DW.fixNB rfl rfl rfl rfl rfl (ne_beq (v := true) rfl rfl) ?_
              refine DW.fixNB rfl rfl rfl rfl rfl (ne_beq (v := true) rfl rfl) ?_
              refine DW.fixNU rfl rfl rfl rfl rfl ?_
              refine DW.fixNU rfl rfl rfl rfl rfl ?_
              refine DW.fixNU rfl rfl rfl rfl rfl ?_
              refine DW.fixNU rfl rfl rfl rfl rfl ?_
              refine DW.fixNU rfl rfl rfl rfl rfl ?_
              refine DW.fixNU rfl rfl rfl rfl rfl ?_
              refine DW.fixNU rfl rfl rfl rfl rfl ?_
              refine DW.fixNU rfl rfl rfl rfl rfl ?_
              refine DW.fixNU rfl rfl rfl rfl rfl ?_
              refine DW.fixNU rfl rfl rfl rfl rfl ?_
              refine DW.fixNU rfl rfl rfl rfl rfl ?_
              refine DW.fixNU rfl rfl rfl rfl rfl ?_
              refine DW.fixNU rfl rfl rfl rfl rfl ?_
              refine DW.fixNU rfl rfl rfl rfl rfl ?_
              refine DW.fixNU rfl rfl rfl rfl rfl ?_
              refine DW.fixNU rfl rfl rfl rfl rfl ?_
              refine DW.fixNU rfl rfl rfl rfl rfl ?_
              refine DW.fixNU rfl rfl rfl rfl rfl ?_
              refine DW.fixNB rfl rfl rfl rfl rfl (ne_beq (v := true) rfl rfl) ?_
              refine DW.fix rfl rfl rfl (fun _ EQ => RV.pickTB rfl rfl rfl) ?_
              refine DW.nil (jK89 _ _ ⟨_, ?_, ⟨true, F, rfl, H⟩⟩)
              exact ⟨rfl, rfl, rfl, rfl, rfl, rfl, rfl, trivial⟩
        ·
          replace F := ite_n hp4 F
          have hq4 := dec_f hp4
          refine CW.condF rfl hq4 ?_
          refine CW.exit (jK70 _ _ ⟨_, ?_, ⟨F, rfl, H⟩⟩)
          exact ⟨rfl, rfl, rfl, trivial⟩
  ·
    intro K14 hK14 jK90
    by_cases hp9 : ((a1.drains.length : Int)) = 0
    ·
      replace F := ite_y hp9 F
      have hq9 := dec_t hp9
      refine CW.region ?_
      refine LW.pure rfl rfl (RV.fieldAddr Tf79_0 rfl) ?_
      refine LW.pure rfl rfl (RV.load1 Tk30 rfl ((H.blk 0 rfl).cells.off 0) rfl) ?_
      refine LW.pure rfl rfl (RV.len Ts30 rfl) ?_
      refine LW.pure rfl rfl (RV.eqi rfl rfl) ?_
      refine LW.pure rfl rfl (RV.move rfl) ?_
      refine LW.noB rfl rfl rfl rfl (ne_beq (v := true) hq9 rfl) ?_
      refine LW.noB rfl rfl rfl rfl (ne_beq (v := true) hq9 rfl) ?_
      refine LW.noB rfl rfl rfl rfl (ne_beq (v := true) hq9 rfl) ?_
      refine LW.noB rfl rfl rfl rfl (ne_beq (v := true) hq9 rfl) ?_
      refine LW.pure rfl rfl (RV.pickTB rfl hq9 rfl) ?_
      replace H := H.pick (L' := [.blk b1 24 [.int .i64 a0.nodes, .int .i64 a0.from_, .int .i64 a0.to_, .slice A_a0_drains a0.drains.length c_a0_drains], .blk b2 79 [.slice A_a1_drains a1.drains.length c_a1_drains, .int .i64 a1.amount]]) [1, 0] (by decide) rfl
      replace R0 := H.ext
      refine LW.nil (jK90 _ _ ⟨_, ?_, ⟨true, F, rfl, H⟩⟩)
      exact ⟨rfl, rfl, rfl, rfl, trivial⟩
    ·
      replace F := ite_n hp9 F
      have hq9 := dec_f hp9
      obtain ⟨r3, hr3, F⟩ := bnd_some F
      refine CW.region ?_
      refine LW.pure rfl rfl (RV.fieldAddr Tf79_0 rfl) ?_
      refine LW.pure rfl rfl (RV.load1 Tk30 rfl ((H.blk 0 rfl).cells.off 0) rfl) ?_
      refine LW.pure rfl rfl (RV.len Ts30 rfl) ?_
      refine LW.pure rfl rfl (RV.eqi rfl rfl) ?_
      refine LW.pure rfl rfl (RV.move rfl) ?_
      refine LW.pureYB rfl rfl rfl rfl hq9 (RV.fieldAddr Tf79_1 rfl) ?_
      refine LW.pureYB rfl rfl rfl rfl hq9 (RV.load1 Tk3 rfl ((H.blk 0 rfl).cells.off 1) rfl) ?_
      refine LW.yesB rfl rfl rfl rfl hq9 (OW.call Tc62 rfl (drain_from_ok (a0 := a1.amount) (a1 := (1 : Int)) (a2 := (20 : Int)) hr3) ?_)
      rintro _ w15 ⟨rfl, E13⟩
      refine ⟨_, rfl, ?_⟩
      replace H := H.grow E13
      replace R0 := H.ext
      refine LW.pureYB rfl rfl rfl rfl hq9 (RV.not rfl) ?_
      refine LW.pure rfl rfl (RV.pickFB rfl hq9 rfl) ?_
      replace H := H.pick (L' := [.blk b1 24 [.int .i64 a0.nodes, .int .i64 a0.from_, .int .i64 a0.to_, .slice A_a0_drains a0.drains.length c_a0_drains], .blk b2 79 [.slice A_a1_drains a1.drains.length c_a1_drains, .int .i64 a1.amount]]) [1, 0] (by decide) rfl
      replace R0 := H.ext
      refine LW.nil (jK90 _ _ ⟨_, ?_, ⟨(!r3), F, rfl, H⟩⟩)
      exact ⟨rfl, rfl, rfl, rfl, trivial⟩
set_option maxRecDepth 20000 in
set_option maxHeartbeats 1000000 in
theorem drain_Sum_ok {a0 : Net} {a1 : List Trail} {A_a0_drains : Option Addr} {c_a0_drains : Nat} {A_a1 : Option Addr} {c_a1 : Nat} {w : World} {res : (List Int) × Int} (h_a0_drains : Sl w A_a0_drains c_a0_drains 3 (a0.drains.map encDrain)) (h_a1 : SlT w A_a1 c_a1 2 encTrail (fun x => x.drains) 1 encN a1) (F : drain_Sum a0 a1 = some res) : Calls Try.prog 38 #[.agg #[.int .i64 a0.nodes, .int .i64 a0.from_, .int .i64 a0.to_, .slice A_a0_drains a0.drains.length c_a0_drains], .slice A_a1 a1.length c_a1] w (fun e w' => ∃ (A1 : Option Addr) (c1 : Nat), e = .returned (.tuple #[.slice A1 res.1.length c1, .int .i64 res.2]) ∧ Hp w w' [.own A1 c1 3 1 (List.map encN res.1)]) := by
  refine calls_of_cw (args := [.agg #[.int .i64 a0.nodes, .int .i64 a0.from_, .int .i64 a0.to_, .slice A_a0_drains a0.drains.length c_a0_drains], .slice A_a1 a1.length c_a1]) Try.func38 rfl rfl rfl rfl ?_
  have H := Hp.start w
  have R0 := H.ext
  unfold drain_Sum at F
  refine CW.seq fun K1 hK1 => ?_
  refine CW.region ?_
  refine LW.go rfl rfl (OW.box rfl fun b1 w1 N1 => ?_)
  replace H := H.new N1 N1.blk
  replace R0 := H.ext
  refine LW.pure rfl rfl (RV.assign rfl) ?_
  refine LW.pure rfl rfl (RV.assign rfl) ?_
  refine LW.nil (hK1 _ _ ?_)
  refine CW.seq fun K2 hK2 => ?_
  refine CW.seq fun K3 hK3 => ?_
  obtain ⟨r2, hr2, F⟩ := bnd_some F
  refine CW.region ?_
  refine LW.pure rfl rfl (RV.loadA [.int .i64 a0.nodes, .int .i64 a0.from_, .int .i64 a0.to_, .slice A_a0_drains a0.drains.length c_a0_drains] Tk24 rfl (H.blk 0 rfl).cells rfl rfl) ?_
  refine LW.go rfl rfl (OW.call Tc26 rfl (drain_Validate_ok (a0 := a0) (h_a0_drains.ext R0) hr2) ?_)
  rintro _ w2 ⟨rfl, E1⟩
  refine ⟨_, rfl, ?_⟩
  replace H := H.grow E1
  replace R0 := H.ext
  refine LW.pure rfl rfl (RV.assign rfl) ?_
  refine LW.nil (hK3 _ _ ?_)
  refine CW.seq fun K4 hK4 => ?_
  refine CW.region ?_
  refine LW.pure rfl rfl (RV.move rfl) ?_
  refine LW.pure rfl rfl (RV.nei rfl rfl) ?_
  refine LW.nil (hK4 _ _ ?_)
  by_cases hp1 : r2 = 0
  ·
    replace F := ite_y hp1 F
    have hq1 := dec_t hp1
    refine CW.condF rfl (not_f hq1) ?_
    refine CW.skip (hK2 _ _ ?_)
    refine CW.seq fun K5 hK5 => ?_
    refine CW.seq fun K6 hK6 => ?_
    refine CW.region ?_
    refine LW.pure rfl rfl (RV.move rfl) ?_
    refine LW.pure rfl rfl (RV.len Ts45 rfl) ?_
    refine LW.pure rfl rfl (RV.gtr rfl rfl) ?_
    refine LW.nil (hK6 _ _ ?_)
    by_cases hp2 : (40 : Int) < ((a1.length : Int))
    ·
      replace F := ite_y hp2 F
      have hq2 := dec_t hp2
      refine CW.condT rfl hq2 ?_
      refine CW.seq fun K7 hK7 => ?_
      refine CW.region ?_
      refine LW.pure rfl rfl (RV.assign rfl) ?_
      refine LW.pure rfl rfl (RV.assign rfl) ?_
      refine LW.nil (hK7 _ _ ?_)
      refine CW.ret ?_
      obtain rfl := Option.some.inj F
      refine ⟨_, (ResOK.two rfl rfl), ?_⟩
      replace H := H.nilOwn 3 1
      replace R0 := H.ext
      replace H := H.pick (L' := [.own none 0 3 1 (List.map encN (([] : List Int)))]) [0] (by decide) rfl
      replace R0 := H.ext
      exact ⟨none, 0, (by first | rfl | (simp; done) | (simp; omega)), H⟩
    ·
      replace F := ite_n hp2 F
      have hq2 := dec_f hp2
      refine CW.condF rfl hq2 ?_
      refine CW.skip (hK5 _ _ ?_)
      refine CW.seq fun K8 hK8 => ?_
      obtain ⟨hg1, F⟩ := gd_some F
      refine CW.region ?_
      refine LW.pure rfl rfl (RV.fieldAddr Tf24_3 rfl) ?_
      refine LW.pure rfl rfl (RV.load1 Tk22 rfl ((H.blk 0 rfl).cells.off 3) rfl) ?_
      refine LW.pure rfl rfl (RV.len Ts22 rfl) ?_
      refine LW.go rfl rfl (OW.makeR (enc := encN) (0 : Int) Ts30 rfl rfl rfl rfl rfl hg1 (by decide) fun b2 w3 N2 => ?_)
      replace H := H.made' (k := 1) (t := 3) (enc := encN) (l := (List.replicate (Int.toNat ((a0.drains.length : Int))) (0 : Int))) N2 N2.blk (fun _ => rfl) rfl (by first | decide | omega | (simp; done) | (simp; omega))
      replace R0 := H.ext
      refine LW.pure rfl rfl (RV.assign rfl) ?_
      refine LW.nil (hK8 _ _ ?_)
      refine CW.seqJ (fun ρ wl1 => (∃ (l1 : List Int), drain_Sum_k1 l1 = some res ∧ ρ = [(4, .slice none 0 0), (5, .int .i64 0), (7, .slice (some ⟨b2, 0, none⟩) l1.length (((List.replicate (Int.toNat ((a0.drains.length : Int))) (0 : Int))).length))] ∧ Hp w wl1 [.own (some ⟨b2, 0, none⟩) (((List.replicate (Int.toNat ((a0.drains.length : Int))) (0 : Int))).length) 3 1 (List.map encN l1)])) ?_ ?_
      ·
        rintro _ wl1 ⟨l1, F, rfl, H⟩
        have R0 := H.ext
        unfold drain_Sum_k1 at F
        refine CW.seq fun K9 hK9 => ?_
        refine CW.region ?_
        refine LW.pure rfl rfl (RV.move rfl) ?_
        refine LW.pure rfl rfl (RV.assign rfl) ?_
        refine LW.pure rfl rfl (RV.assign rfl) ?_
        refine LW.nil (hK9 _ _ ?_)
        refine CW.ret ?_
        obtain rfl := Option.some.inj F
        refine ⟨_, (ResOK.two rfl rfl), ?_⟩
        exact ⟨(some ⟨b2, 0, none⟩), (((List.replicate (Int.toNat ((a0.drains.length : Int))) (0 : Int))).length), (by first | rfl | (simp; done) | (simp; omega)), H⟩
      ·
        intro K10 hK10 jK357
        refine CW.seq fun K11 hK11 => ?_
        refine CW.region ?_
        refine LW.pure rfl rfl (RV.move rfl) ?_
        refine LW.pure rfl rfl (RV.len Ts45 rfl) ?_
        refine LW.pure rfl rfl (RV.move rfl) ?_
        refine LW.nil (hK11 _ _ ?_)
        refine CW.block ?_
        refine CW.loop (fun meas ρ wl2 => ∃ (t26_1 : Int) (l4 : List Int), drain_Sum_L2 a0 a1 meas t26_1 l4 = some res ∧ ρ = [(2, .pointer (some (⟨b1, 0, none⟩))), (4, .slice none 0 0), (5, .int .i64 0), (7, .slice (some ⟨b2, 0, none⟩) l4.length (((List.replicate (Int.toNat ((a0.drains.length : Int))) (0 : Int))).length)), (24, .slice A_a1 a1.length c_a1), (25, .int .i64 ((a1.length : Int))), (26, .int .i64 t26_1)] ∧ Hp w wl2 [.own (some ⟨b2, 0, none⟩) (((List.replicate (Int.toNat ((a0.drains.length : Int))) (0 : Int))).length) 3 1 (List.map encN l4), .blk b1 24 [.int .i64 a0.nodes, .int .i64 a0.from_, .int .i64 a0.to_, .slice A_a0_drains a0.drains.length c_a0_drains]]) FU ⟨_, ?_, ((0 : Int)), ((List.replicate (Int.toNat ((a0.drains.length : Int))) (0 : Int))), F, rfl, H⟩ ?_
        · exact ⟨rfl, rfl, rfl, (look_slice rfl (by first | rfl | (simp; done) | (simp; omega))), rfl, rfl, rfl, trivial⟩
        rintro mk1 _ wl2 ⟨t26_1, l4, F, rfl, H⟩
        have R0 := H.ext
        replace F := drain_Sum_L2_s F
        obtain ⟨mk1, rfl, F⟩ := F
        generalize hrec1 : drain_Sum_L2 a0 a1 mk1 = rec1 at F
        unfold drain_Sum_B2 at F
        refine CW.seq fun K12 hK12 => ?_
        refine CW.region ?_
        refine LW.pure rfl rfl (RV.lss rfl rfl) ?_
        refine LW.nil (hK12 _ _ ?_)
        refine CW.seq fun K13 hK13 => ?_
        by_cases hp3 : t26_1 < ((a1.length : Int))
        ·
          replace F := ite_y hp3 F
          have hq3 := dec_t hp3
          refine CW.condT rfl hq3 ?_
          refine CW.skip (hK13 _ _ ?_)
          refine CW.seqJ (fun ρ wl3 => (∃ (l2 : List Int), drain_Sum_k2 t26_1 rec1 l2 = some res ∧ ρ = [(2, .pointer (some (⟨b1, 0, none⟩))), (4, .slice none 0 0), (5, .int .i64 0), (7, .slice (some ⟨b2, 0, none⟩) l2.length (((List.replicate (Int.toNat ((a0.drains.length : Int))) (0 : Int))).length)), (24, .slice A_a1 a1.length c_a1), (25, .int .i64 ((a1.length : Int))), (26, .int .i64 t26_1)] ∧ Hp w wl3 [.own (some ⟨b2, 0, none⟩) (((List.replicate (Int.toNat ((a0.drains.length : Int))) (0 : Int))).length) 3 1 (List.map encN l2), .blk b1 24 [.int .i64 a0.nodes, .int .i64 a0.from_, .int .i64 a0.to_, .slice A_a0_drains a0.drains.length c_a0_drains]])) ?_ ?_
          ·
            rintro _ wl3 ⟨l2, F, rfl, H⟩
            have R0 := H.ext
            unfold drain_Sum_k2 at F
            obtain ⟨hg2, F⟩ := gd_some F
            refine CW.region ?_
            refine LW.pure rfl rfl (RV.add rfl rfl hg2) ?_
            refine LW.pure rfl rfl (RV.move rfl) ?_
            refine LW.nil ?_
            subst hrec1
            refine ⟨mk1, Nat.lt_succ_self _, _, ?_, (t26_1 + 1), l2, F, rfl, H⟩
            exact ⟨rfl, rfl, rfl, (look_slice rfl (by first | rfl | (simp; done) | (simp; omega))), rfl, rfl, rfl, trivial⟩
          ·
            intro K14 hK14 jK452
            refine CW.block ?_
            refine CW.seq fun K15 hK15 => ?_
            obtain ⟨x1, hbx1, hx1, F⟩ := ix_some F
            refine CW.region ?_
            obtain ⟨A2, c2, hC1, hS1⟩ := h_a1.at_ hx1
            refine LW.pure rfl rfl (RV.indexAddr Ts45 rfl rfl hbx1 (h_a1.addr hbx1)) ?_
            refine LW.pure rfl rfl (RV.loadA [.slice A2 x1.drains.length c2, .int .i64 x1.amount] Tk79 rfl (hC1.ext R0) rfl rfl) ?_
            refine LW.go rfl rfl (OW.alloc Tz79 fun b3 w4 N3 => ?_)
            replace H := H.new N3 N3.blk
            replace R0 := H.ext
            refine LW.go rfl rfl (OW.store Tk79 rfl rfl (H.blk 0 rfl) (off := 0) (vs := [.slice A2 x1.drains.length c2, .int .i64 x1.amount]) rfl rfl rfl rfl rfl fun w5 S1 => ?_)
            replace H : Hp w w5 [.blk b3 79 [.slice A2 x1.drains.length c2, .int .i64 x1.amount], .own (some ⟨b2, 0, none⟩) (((List.replicate (Int.toNat ((a0.drains.length : Int))) (0 : Int))).length) 3 1 (List.map encN l4), .blk b1 24 [.int .i64 a0.nodes, .int .i64 a0.from_, .int .i64 a0.to_, .slice A_a0_drains a0.drains.length c_a0_drains]] := H.stored 0 rfl S1
            replace R0 := H.ext
            refine LW.nil (hK15 _ _ ?_)
            refine CW.seq fun K16 hK16 => ?_
            refine CW.seq fun K17 hK17 => ?_
            obtain ⟨r1, hr1, F⟩ := bnd_some F
            refine CW.region ?_
            refine LW.pure rfl rfl (RV.loadA [.int .i64 a0.nodes, .int .i64 a0.from_, .int .i64 a0.to_, .slice A_a0_drains a0.drains.length c_a0_drains] Tk24 rfl (H.blk 2 rfl).cells rfl rfl) ?_
            refine LW.pure rfl rfl (RV.loadA [.slice A2 x1.drains.length c2, .int .i64 x1.amount] Tk79 rfl (H.blk 0 rfl).cells rfl rfl) ?_
            refine LW.go rfl rfl (OW.call Tc77 rfl (drain_isTrail_ok (a0 := a0) (a1 := x1) (h_a0_drains.ext R0) (hS1.ext R0) hr1) ?_)
            rintro _ w6 ⟨rfl, E2⟩
            refine ⟨_, rfl, ?_⟩
            replace H := H.grow E2
            replace R0 := H.ext
            refine LW.pure rfl rfl (RV.not rfl) ?_
            refine LW.nil (hK17 _ _ ?_)
            by_cases hp4 : r1 = true
            ·
              replace F := ite_y hp4 F
              have hq4 : r1 = true := hp4
              refine CW.condF rfl (not_f hq4) ?_
              refine CW.skip (hK16 _ _ ?_)
              refine CW.seq fun K18 hK18 => ?_
              refine CW.region ?_
              refine LW.pure rfl rfl (RV.fieldAddr Tf79_0 rfl) ?_
              refine LW.pure rfl rfl (RV.load1 Tk30 rfl ((H.blk 0 rfl).cells.off 0) rfl) ?_
              refine LW.pure rfl rfl (RV.len Ts30 rfl) ?_
              refine LW.pure rfl rfl (RV.move rfl) ?_
              refine LW.nil (hK18 _ _ ?_)
              refine CW.block ?_
              replace H := H.pick (L' := [.own (some ⟨b2, 0, none⟩) (((List.replicate (Int.toNat ((a0.drains.length : Int))) (0 : Int))).length) 3 1 (List.map encN l4), .blk b1 24 [.int .i64 a0.nodes, .int .i64 a0.from_, .int .i64 a0.to_, .slice A_a0_drains a0.drains.length c_a0_drains], .blk b3 79 [.slice A2 x1.drains.length c2, .int .i64 x1.amount]]) [1, 2, 0] (by decide) rfl
              replace R0 := H.ext
              refine CW.loop (fun meas ρ wl4 => ∃ (t37_1 : Int) (l3 : List Int), drain_Sum_L1 t26_1 rec1 x1 meas t37_1 l3 = some res ∧ ρ = [(2, .pointer (some (⟨b1, 0, none⟩))), (4, .slice none 0 0), (5, .int .i64 0), (7, .slice (some ⟨b2, 0, none⟩) l3.length (((List.replicate (Int.toNat ((a0.drains.length : Int))) (0 : Int))).length)), (9, .pointer (some (⟨b3, 0, none⟩))), (24, .slice A_a1 a1.length c_a1), (25, .int .i64 ((a1.length : Int))), (26, .int .i64 t26_1), (35, .slice A2 x1.drains.length c2), (36, .int .i64 ((x1.drains.length : Int))), (37, .int .i64 t37_1)] ∧ Hp w wl4 [.own (some ⟨b2, 0, none⟩) (((List.replicate (Int.toNat ((a0.drains.length : Int))) (0 : Int))).length) 3 1 (List.map encN l3), .blk b1 24 [.int .i64 a0.nodes, .int .i64 a0.from_, .int .i64 a0.to_, .slice A_a0_drains a0.drains.length c_a0_drains], .blk b3 79 [.slice A2 x1.drains.length c2, .int .i64 x1.amount]]) FU ⟨_, ?_, ((0 : Int)), l4, F, rfl, H⟩ ?_
              · exact ⟨rfl, rfl, rfl, (look_slice rfl (by first | rfl | (simp; done) | (simp; omega))), rfl, rfl, rfl, rfl, rfl, rfl, rfl, trivial⟩
              rintro mk2 _ wl4 ⟨t37_1, l3, F, rfl, H⟩
              have R0 := H.ext
              replace F := drain_Sum_L1_s F
              obtain ⟨mk2, rfl, F⟩ := F
              generalize hrec2 : drain_Sum_L1 t26_1 rec1 x1 mk2 = rec2 at F
              unfold drain_Sum_B1 at F
              refine CW.seq fun K19 hK19 => ?_
              refine CW.region ?_
              refine LW.pure rfl rfl (RV.lss rfl rfl) ?_
              refine LW.nil (hK19 _ _ ?_)
              refine CW.seq fun K20 hK20 => ?_
              by_cases hp5 : t37_1 < ((x1.drains.length : Int))
              ·
                replace F := ite_y hp5 F
                have hq5 := dec_t hp5
                refine CW.condT rfl hq5 ?_
                refine CW.skip (hK20 _ _ ?_)
                refine CW.seq fun K21 hK21 => ?_
                refine CW.block ?_
                refine CW.seq fun K22 hK22 => ?_
                obtain ⟨x2, hbx2, hx2, F⟩ := ix_some F
                refine CW.region ?_
                refine LW.pure rfl rfl (RV.indexAddr Ts30 rfl rfl hbx2 (hS1.addr_ hx2)) ?_
                refine LW.pure rfl rfl (RV.load1 Tk3 rfl ((hS1.at_ hx2).ext R0) rfl) ?_
                refine LW.pure rfl rfl (RV.assign rfl) ?_
                refine LW.nil (hK22 _ _ ?_)
                obtain ⟨x3, hbx3, hx3, F⟩ := ix_some F
                obtain ⟨hg3, F⟩ := gd_some F
                obtain ⟨x4, hbx4, hx4, F⟩ := ix_some F
                refine CW.draw [8] (fun _ => True) (.cons 0 1 (.cons 1 1 (.cons 2 1 (.cons 3 1 (.cons 4 1 (.cons 5 1 (.cons 6 1 (.cons 7 1 (.cons 8 0 .nil))))))))) mixed (by kernel_rfl) fun w7 E3 => ?_
                replace H := H.grow E3
                replace R0 := H.ext
                refine DW.fix rfl rfl rfl (fun _ EQ => RV.move rfl) ?_
                refine DW.fix rfl rfl rfl (fun _ EQ => RV.move rfl) ?_
                refine DW.fix rfl rfl rfl (fun _ EQ => RV.indexAddr Ts30 rfl rfl hbx3 ⟨_, rfl⟩) ?_
                refine DW.fix rfl rfl rfl (fun _ EQ => RV.load1 Tk3 rfl (((H.grow EQ).own 0 rfl).sl.at_ hx3) rfl) ?_
                refine DW.fix rfl rfl rfl (fun _ EQ => RV.fieldAddr Tf79_1 rfl) ?_
                refine DW.fix rfl rfl rfl (fun _ EQ => RV.load1 Tk3 rfl (((H.grow EQ).blk 2 rfl).cells.off 1) rfl) ?_
                refine DW.fix rfl rfl rfl (fun _ EQ => RV.add rfl rfl hg3) ?_
                refine DW.fix rfl rfl rfl (fun _ EQ => RV.indexAddr Ts30 rfl rfl hbx4 ⟨_, rfl⟩) ?_
                refine DW.sole rfl rfl rfl (OW.storeO (enc := encN) (vs := [.int .i64 (x3 + x1.amount)]) 0 (x3 + x1.amount) Tk3 rfl rfl (H.own 0 rfl) (fun _ => rfl) rfl hx4 rfl rfl (by decide) rfl rfl fun w8 M1 O1 => ?_)
                refine ⟨fun h => absurd h (by decide), M1.modx (fun _ _ => trivial), ?_⟩
                replace H : Hp w w8 [.own (some ⟨b2, 0, none⟩) (((List.replicate (Int.toNat ((a0.drains.length : Int))) (0 : Int))).length) 3 1 (List.map encN ((l3.set (Int.toNat x2) (x3 + x1.amount)))), .blk b1 24 [.int .i64 a0.nodes, .int .i64 a0.from_, .int .i64 a0.to_, .slice A_a0_drains a0.drains.length c_a0_drains], .blk b3 79 [.slice A2 x1.drains.length c2, .int .i64 x1.amount]] := H.mod 0 rfl M1 O1 (.inl rfl)
                replace R0 := H.ext
                refine DW.nil (hK21 _ _ ?_)
                obtain ⟨hg4, F⟩ := gd_some F
                refine CW.region ?_
                refine LW.pure rfl rfl (RV.add rfl rfl hg4) ?_
                refine LW.pure rfl rfl (RV.move rfl) ?_
                refine LW.nil ?_
                subst hrec2
                refine ⟨mk2, Nat.lt_succ_self _, _, ?_, (t37_1 + 1), ((l3.set (Int.toNat x2) (x3 + x1.amount))), F, rfl, H⟩
                exact ⟨rfl, rfl, rfl, (look_slice rfl (by first | rfl | (simp; done) | (simp; omega))), rfl, rfl, rfl, rfl, rfl, rfl, rfl, trivial⟩
              ·
                replace F := ite_n hp5 F
                have hq5 := dec_f hp5
                refine CW.condF rfl hq5 ?_
                replace H := H.pick (L' := [.own (some ⟨b2, 0, none⟩) (((List.replicate (Int.toNat ((a0.drains.length : Int))) (0 : Int))).length) 3 1 (List.map encN l3), .blk b1 24 [.int .i64 a0.nodes, .int .i64 a0.from_, .int .i64 a0.to_, .slice A_a0_drains a0.drains.length c_a0_drains]]) [0, 1] (by decide) rfl
                replace R0 := H.ext
                refine CW.exit (jK452 _ _ ⟨_, ?_, ⟨l3, F, rfl, H⟩⟩)
                exact ⟨rfl, rfl, rfl, (look_slice rfl (by first | rfl | (simp; done) | (simp; omega))), rfl, rfl, rfl, trivial⟩
            ·
              replace F := ite_n hp4 F
              have hq4 : r1 = false := raw_f hp4
              refine CW.condT rfl (not_t hq4) ?_
              refine CW.seq fun K23 hK23 => ?_
              refine CW.region ?_
              refine LW.pure rfl rfl (RV.assign rfl) ?_
              refine LW.pure rfl rfl (RV.assign rfl) ?_
              refine LW.nil (hK23 _ _ ?_)
              refine CW.ret ?_
              obtain rfl := Option.some.inj F
              refine ⟨_, (ResOK.two rfl rfl), ?_⟩
              replace H := H.nilOwn 3 1
              replace R0 := H.ext
              replace H := H.pick (L' := [.own none 0 3 1 (List.map encN (([] : List Int)))]) [0] (by decide) rfl
              replace R0 := H.ext
              exact ⟨none, 0, (by first | rfl | (simp; done) | (simp; omega)), H⟩
        ·
          replace F := ite_n hp3 F
          have hq3 := dec_f hp3
          refine CW.condF rfl hq3 ?_
          replace H := H.pick (L' := [.own (some ⟨b2, 0, none⟩) (((List.replicate (Int.toNat ((a0.drains.length : Int))) (0 : Int))).length) 3 1 (List.map encN l4)]) [0] (by decide) rfl
          replace R0 := H.ext
          refine CW.exit (jK357 _ _ ⟨_, ?_, ⟨l4, F, rfl, H⟩⟩)
          exact ⟨rfl, rfl, (look_slice rfl (by first | rfl | (simp; done) | (simp; omega))), trivial⟩
  ·
    replace F := ite_n hp1 F
    have hq1 := dec_f hp1
    refine CW.condT rfl (not_t hq1) ?_
    refine CW.seq fun K24 hK24 => ?_
    refine CW.region ?_
    refine LW.pure rfl rfl (RV.move rfl) ?_
    refine LW.pure rfl rfl (RV.assign rfl) ?_
    refine LW.pure rfl rfl (RV.assign rfl) ?_
    refine LW.nil (hK24 _ _ ?_)
    refine CW.ret ?_
    obtain rfl := Option.some.inj F
    refine ⟨_, (ResOK.two rfl rfl), ?_⟩
    replace H := H.nilOwn 3 1
    replace R0 := H.ext
    replace H := H.pick (L' := [.own none 0 3 1 (List.map encN (([] : List Int)))]) [0] (by decide) rfl
    replace R0 := H.ext
    exact ⟨none, 0, (by first | rfl | (simp; done) | (simp; omega)), H⟩
end Go.D2
