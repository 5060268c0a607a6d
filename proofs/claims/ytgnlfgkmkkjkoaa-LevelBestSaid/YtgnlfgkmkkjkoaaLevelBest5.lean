/- Lemmas and walks that the proof of this claim uses: D1m17, D1m18, D1m19, Tb22, D1p1. -/
import Derived.Test.YtgnlfgkmkkjkoaaLevelBest4
set_option linter.unusedVariables false
set_option linter.unusedSimpArgs false
namespace Go.D1
open Go.Tb Go.Proofs Go.RowKit
theorem Tc104 : callable Try.prog 104 = true := by kernel_rfl
set_option maxRecDepth 20000 in
set_option maxHeartbeats 1000000 in
theorem ref01_free_ok {a0 : Survey} {A_a0_readings : Option Addr} {c_a0_readings : Nat} {w : World} {res : (List Int)} (h_a0_readings : Sl w A_a0_readings c_a0_readings 4 (a0.readings.map encReading)) (F : ref01_free a0 = some res) : Calls Try.prog 104 #[.agg #[.int .i64 a0.points, .slice A_a0_readings a0.readings.length c_a0_readings]] w (fun e w' => ∃ (A1 : Option Addr) (c1 : Nat), e = .returned (.slice A1 res.length c1) ∧ Hp w w' [.own A1 c1 3 1 (List.map encN res)]) := by
  refine calls_of_cw (args := [.agg #[.int .i64 a0.points, .slice A_a0_readings a0.readings.length c_a0_readings]]) Try.func104 rfl rfl rfl rfl ?_
  have H := Hp.start w
  have R0 := H.ext
  unfold ref01_free at F
  refine CW.seq fun K1 hK1 => ?_
  refine CW.region ?_
  refine LW.go rfl rfl (OW.box rfl fun b1 w1 N1 => ?_)
  replace H := H.new N1 N1.blk
  replace R0 := H.ext
  refine LW.pure rfl rfl (RV.assign rfl) ?_
  refine LW.nil (hK1 _ _ ?_)
  refine CW.seq fun K2 hK2 => ?_
  obtain ⟨r1, hr1, F⟩ := bnd_some F
  refine CW.region ?_
  refine LW.pure rfl rfl (RV.loadA [.int .i64 a0.points, .slice A_a0_readings a0.readings.length c_a0_readings] Tk24 rfl (H.blk 0 rfl).cells rfl rfl) ?_
  refine LW.go rfl rfl (OW.call Tc67 rfl (ref01_whole_ok (a0 := a0) (h_a0_readings.ext R0) hr1) ?_)
  rintro _ w2 ⟨A3_0, c3_0, rfl, E1⟩
  refine ⟨_, rfl, ?_⟩
  replace H : Hp w w2 [.own A3_0 c3_0 3 1 (List.map encN r1), .blk b1 24 [.int .i64 a0.points, .slice A_a0_readings a0.readings.length c_a0_readings]] := H.append E1
  replace R0 := H.ext
  refine LW.pure rfl rfl (RV.assign rfl) ?_
  refine LW.nil (hK2 _ _ ?_)
  refine CW.seq fun K3 hK3 => ?_
  refine CW.region ?_
  refine LW.pure rfl rfl (RV.assign rfl) ?_
  refine LW.nil (hK3 _ _ ?_)
  refine CW.seqJ (fun ρ wl1 => (∃ (l1 : List Int) (Al1 : Option Addr) (cl1 : Nat), ref01_free_k1 l1 = some res ∧ ρ = [(2, .slice none 0 0), (4, .slice Al1 l1.length cl1)] ∧ Hp w wl1 [.own Al1 cl1 3 1 (List.map encN l1)])) ?_ ?_
  ·
    rintro _ wl1 ⟨l1, Al1, cl1, F, rfl, H⟩
    have R0 := H.ext
    unfold ref01_free_k1 at F
    refine CW.seq fun K4 hK4 => ?_
    refine CW.region ?_
    refine LW.pure rfl rfl (RV.move rfl) ?_
    refine LW.pure rfl rfl (RV.assign rfl) ?_
    refine LW.nil (hK4 _ _ ?_)
    refine CW.ret ?_
    obtain rfl := Option.some.inj F
    refine ⟨_, (ResOK.one rfl), ?_⟩
    exact ⟨Al1, cl1, (by first | rfl | (simp; done) | (simp; omega)), H⟩
  ·
    intro K5 hK5 jK58
    refine CW.seq fun K6 hK6 => ?_
    refine CW.region ?_
    refine LW.pure rfl rfl (RV.assign rfl) ?_
    refine LW.nil (hK6 _ _ ?_)
    refine CW.block ?_
    replace H := H.nilOwn 3 1
    replace R0 := H.ext
    replace H := H.pick (L' := [.own A3_0 c3_0 3 1 (List.map encN r1), .own none 0 3 1 (List.map encN (([] : List Int))), .blk b1 24 [.int .i64 a0.points, .slice A_a0_readings a0.readings.length c_a0_readings]]) [1, 0, 2] (by decide) rfl
    replace R0 := H.ext
    refine CW.loop (fun meas ρ wl2 => ∃ (t5_1 : Int) (l3 : List Int) (Al3 : Option Addr) (cl3 : Nat), ref01_free_L1 a0 r1 meas t5_1 l3 = some res ∧ ρ = [(1, .pointer (some (⟨b1, 0, none⟩))), (2, .slice none 0 0), (3, .slice A3_0 r1.length c3_0), (4, .slice Al3 l3.length cl3), (5, .int .i64 t5_1)] ∧ Hp w wl2 [.own A3_0 c3_0 3 1 (List.map encN r1), .own Al3 cl3 3 1 (List.map encN l3), .blk b1 24 [.int .i64 a0.points, .slice A_a0_readings a0.readings.length c_a0_readings]]) FU ⟨_, ?_, ((0 : Int)), (([] : List Int)), none, 0, F, rfl, H⟩ ?_
    · exact ⟨rfl, rfl, (look_slice rfl (by first | rfl | (simp; done) | omega | (simp; omega))), (look_slice rfl (by first | rfl | (simp; done) | omega | (simp; omega))), rfl, trivial⟩
    rintro mk1 _ wl2 ⟨t5_1, l3, Al3, cl3, F, rfl, H⟩
    have R0 := H.ext
    replace F := ref01_free_L1_s F
    obtain ⟨mk1, rfl, F⟩ := F
    generalize hrec1 : ref01_free_L1 a0 r1 mk1 = rec1 at F
    unfold ref01_free_B1 at F
    refine CW.seq fun K7 hK7 => ?_
    refine CW.seq fun K8 hK8 => ?_
    refine CW.region ?_
    refine LW.pure rfl rfl (RV.move rfl) ?_
    refine LW.pure rfl rfl (RV.fieldAddr Tf24_0 rfl) ?_
    refine LW.pure rfl rfl (RV.load1 Tk3 rfl ((H.blk 2 rfl).cells.off 0) rfl) ?_
    refine LW.pure rfl rfl (RV.lss rfl rfl) ?_
    refine LW.nil (hK8 _ _ ?_)
    by_cases hp1 : t5_1 < a0.points
    ·
      replace F := ite_y hp1 F
      have hq1 := dec_t hp1
      refine CW.condT rfl hq1 ?_
      refine CW.skip (hK7 _ _ ?_)
      refine CW.seqJ (fun ρ wl3 => (∃ (l2 : List Int) (Al2 : Option Addr) (cl2 : Nat), ref01_free_k2 t5_1 rec1 l2 = some res ∧ ρ = [(1, .pointer (some (⟨b1, 0, none⟩))), (2, .slice none 0 0), (3, .slice A3_0 r1.length c3_0), (4, .slice Al2 l2.length cl2), (5, .int .i64 t5_1)] ∧ Hp w wl3 [.own A3_0 c3_0 3 1 (List.map encN r1), .own Al2 cl2 3 1 (List.map encN l2), .blk b1 24 [.int .i64 a0.points, .slice A_a0_readings a0.readings.length c_a0_readings]])) ?_ ?_
      ·
        rintro _ wl3 ⟨l2, Al2, cl2, F, rfl, H⟩
        have R0 := H.ext
        unfold ref01_free_k2 at F
        obtain ⟨hg1, F⟩ := gd_some F
        refine CW.region ?_
        refine LW.pure rfl rfl (RV.move rfl) ?_
        refine LW.pure rfl rfl (RV.add rfl rfl hg1) ?_
        refine LW.pure rfl rfl (RV.assign rfl) ?_
        refine LW.nil ?_
        subst hrec1
        refine ⟨mk1, Nat.lt_succ_self _, _, ?_, (t5_1 + 1), l2, Al2, cl2, F, rfl, H⟩
        exact ⟨rfl, rfl, (look_slice rfl (by first | rfl | (simp; done) | omega | (simp; omega))), (look_slice rfl (by first | rfl | (simp; done) | omega | (simp; omega))), rfl, trivial⟩
      ·
        intro K9 hK9 jK73
        refine CW.block ?_
        refine CW.seq fun K10 hK10 => ?_
        obtain ⟨x1, hbx1, hx1, F⟩ := ix_some F
        refine CW.region ?_
        refine LW.pure rfl rfl (RV.move rfl) ?_
        refine LW.pure rfl rfl (RV.move rfl) ?_
        refine LW.pure rfl rfl (RV.indexAddr Ts39 rfl rfl hbx1 ((H.own 0 rfl).sl.addr_ hx1)) ?_
        refine LW.pure rfl rfl (RV.load1 Tk3 rfl ((H.own 0 rfl).sl.at_ hx1) rfl) ?_
        refine LW.pure rfl rfl (RV.move rfl) ?_
        refine LW.pure rfl rfl (RV.nei rfl rfl) ?_
        refine LW.nil (hK10 _ _ ?_)
        by_cases hp2 : x1 = t5_1
        ·
          replace F := ite_y hp2 F
          have hq2 := dec_t hp2
          refine CW.condF rfl (not_f hq2) ?_
          refine CW.skip (jK73 _ _ ⟨_, ?_, ⟨l3, Al3, cl3, F, rfl, H⟩⟩)
          exact ⟨rfl, rfl, (look_slice rfl (by first | rfl | (simp; done) | omega | (simp; omega))), (look_slice rfl (by first | rfl | (simp; done) | omega | (simp; omega))), rfl, trivial⟩
        ·
          replace F := ite_n hp2 F
          have hq2 := dec_f hp2
          refine CW.condT rfl (not_t hq2) ?_
          obtain ⟨hg2, F⟩ := gd_some F
          refine CW.region ?_
          refine LW.pure rfl rfl (RV.move rfl) ?_
          refine LW.pure rfl rfl (RV.move rfl) ?_
          refine LW.go rfl rfl (OW.buildSlice (e := 3) (vs := [.int .i64 t5_1]) (cs := [.int .i64 t5_1]) rfl (fun _ => by kernel_rfl) fun b2 w3 N2 => ?_)
          replace H := H.made' (k := 1) (t := 3) (enc := encN) (l := ([t5_1] : List Int)) N2 N2.blk (fun _ => rfl) rfl (by first | decide | omega | (simp; done) | (simp; omega))
          replace R0 := H.ext
          refine LW.go rfl rfl (OW.appendG (enc := encN) (l := l3) (xs := ([t5_1] : List Int)) Ts39 rfl (look_slice rfl (by first | rfl | (simp; done) | (simp; omega))) (H.own 2 rfl) (H.own 0 rfl).sl (fun _ => rfl) rfl rfl hg2 (by decide) fun A2 c2 w4 O1 M1 D1 => ?_)
          replace H : Hp w w4 [.own (some ⟨b2, 0, none⟩) ((([t5_1] : List Int)).length) 3 1 (List.map encN (([t5_1] : List Int))), .own A3_0 c3_0 3 1 (List.map encN r1), .own A2 c2 3 1 (List.map encN ((l3 ++ ([t5_1] : List Int)))), .blk b1 24 [.int .i64 a0.points, .slice A_a0_readings a0.readings.length c_a0_readings]] := H.mod 2 rfl M1 O1 D1
          replace R0 := H.ext
          refine LW.pure rfl rfl (RV.assign rfl) ?_
          replace H := H.pick (L' := [.own A3_0 c3_0 3 1 (List.map encN r1), .own A2 c2 3 1 (List.map encN ((l3 ++ ([t5_1] : List Int)))), .blk b1 24 [.int .i64 a0.points, .slice A_a0_readings a0.readings.length c_a0_readings]]) [1, 2, 3] (by decide) rfl
          replace R0 := H.ext
          refine LW.nil (jK73 _ _ ⟨_, ?_, ⟨((l3 ++ ([t5_1] : List Int))), A2, c2, F, rfl, H⟩⟩)
          exact ⟨rfl, rfl, (look_slice rfl (by first | rfl | (simp; done) | omega | (simp; omega))), (look_slice rfl (by first | rfl | (simp; done) | omega | (simp; omega))), rfl, trivial⟩
    ·
      replace F := ite_n hp1 F
      have hq1 := dec_f hp1
      refine CW.condF rfl hq1 ?_
      replace H := H.pick (L' := [.own Al3 cl3 3 1 (List.map encN l3)]) [1] (by decide) rfl
      replace R0 := H.ext
      refine CW.exit (jK58 _ _ ⟨_, ?_, ⟨l3, Al3, cl3, F, rfl, H⟩⟩)
      exact ⟨rfl, (look_slice rfl (by first | rfl | (simp; done) | omega | (simp; omega))), trivial⟩
set_option maxRecDepth 20000 in
set_option maxHeartbeats 1000000 in
theorem ref01_best_ok {a0 : Survey} {A_a0_readings : Option Addr} {c_a0_readings : Nat} {w : World} {res : (List Int) × Int} (h_a0_readings : Sl w A_a0_readings c_a0_readings 4 (a0.readings.map encReading)) (F : ref01_best a0 = some res) : Calls Try.prog 75 #[.agg #[.int .i64 a0.points, .slice A_a0_readings a0.readings.length c_a0_readings]] w (fun e w' => ∃ (A1 : Option Addr) (c1 : Nat), e = .returned (.tuple #[.slice A1 res.1.length c1, .int .i64 res.2]) ∧ Hp w w' [.own A1 c1 3 1 (List.map encN res.1)]) := by
  refine calls_of_cw (args := [.agg #[.int .i64 a0.points, .slice A_a0_readings a0.readings.length c_a0_readings]]) Try.func75 rfl rfl rfl rfl ?_
  have H := Hp.start w
  have R0 := H.ext
  unfold ref01_best at F
  refine CW.seq fun K1 hK1 => ?_
  refine CW.region ?_
  refine LW.go rfl rfl (OW.box rfl fun b1 w1 N1 => ?_)
  replace H := H.new N1 N1.blk
  replace R0 := H.ext
  refine LW.pure rfl rfl (RV.assign rfl) ?_
  refine LW.pure rfl rfl (RV.assign rfl) ?_
  refine LW.nil (hK1 _ _ ?_)
  refine CW.seq fun K2 hK2 => ?_
  obtain ⟨r3, hr3, F⟩ := bnd_some F
  refine CW.region ?_
  refine LW.pure rfl rfl (RV.loadA [.int .i64 a0.points, .slice A_a0_readings a0.readings.length c_a0_readings] Tk24 rfl (H.blk 0 rfl).cells rfl rfl) ?_
  refine LW.go rfl rfl (OW.call Tc104 rfl (ref01_free_ok (a0 := a0) (h_a0_readings.ext R0) hr3) ?_)
  rintro _ w2 ⟨A17_0, c17_0, rfl, E1⟩
  refine ⟨_, rfl, ?_⟩
  replace H : Hp w w2 [.own A17_0 c17_0 3 1 (List.map encN r3), .blk b1 24 [.int .i64 a0.points, .slice A_a0_readings a0.readings.length c_a0_readings]] := H.append E1
  replace R0 := H.ext
  refine LW.pure rfl rfl (RV.assign rfl) ?_
  refine LW.nil (hK2 _ _ ?_)
  refine CW.seq fun K3 hK3 => ?_
  obtain ⟨r1, hr1, F⟩ := bnd_some F
  refine CW.region ?_
  refine LW.pure rfl rfl (RV.loadA [.int .i64 a0.points, .slice A_a0_readings a0.readings.length c_a0_readings] Tk24 rfl (H.blk 1 rfl).cells rfl rfl) ?_
  refine LW.pure rfl rfl (RV.move rfl) ?_
  refine LW.go rfl rfl (OW.call Tc100 rfl (ref01_laplace_ok (a0 := a0) (a1 := r3) (h_a0_readings.ext R0) (H.own 0 rfl).sl hr1) ?_)
  rintro _ w3 ⟨A19_0, c19_0, hs19_0, rfl, E2⟩
  refine ⟨_, rfl, ?_⟩
  replace H : Hp w w3 [.tab A19_0 c19_0 39 hs19_0 3 1 (encM encN r1), .own A17_0 c17_0 3 1 (List.map encN r3), .blk b1 24 [.int .i64 a0.points, .slice A_a0_readings a0.readings.length c_a0_readings]] := H.append E2
  replace R0 := H.ext
  refine LW.pure rfl rfl (RV.assign rfl) ?_
  refine LW.nil (hK3 _ _ ?_)
  refine CW.seq fun K4 hK4 => ?_
  refine CW.region ?_
  refine LW.pure rfl rfl (RV.assign rfl) ?_
  refine LW.nil (hK4 _ _ ?_)
  refine CW.seqJ (fun ρ wl1 => (∃ (l4 : List Int) (Al4 : Option Addr) (cl4 : Nat), ref01_best_k4 a0 r3 r1 l4 = some res ∧ ρ = [(1, .pointer (some (⟨b1, 0, none⟩))), (2, .slice none 0 0), (3, .int .i64 0), (4, .slice A17_0 r3.length c17_0), (5, .slice A19_0 r1.length c19_0), (6, .slice Al4 l4.length cl4)] ∧ Hp w wl1 [.own A17_0 c17_0 3 1 (List.map encN r3), .tab A19_0 c19_0 39 hs19_0 3 1 (encM encN r1), .own Al4 cl4 3 1 (List.map encN l4), .blk b1 24 [.int .i64 a0.points, .slice A_a0_readings a0.readings.length c_a0_readings]])) ?_ ?_
  ·
    rintro _ wl1 ⟨l4, Al4, cl4, F, rfl, H⟩
    have R0 := H.ext
    unfold ref01_best_k4 at F
    refine CW.seq fun K5 hK5 => ?_
    obtain ⟨hg1, F⟩ := gd_some F
    refine CW.region ?_
    refine LW.pure rfl rfl (RV.fieldAddr Tf24_0 rfl) ?_
    refine LW.pure rfl rfl (RV.load1 Tk3 rfl ((H.blk 3 rfl).cells.off 0) rfl) ?_
    refine LW.go rfl rfl (OW.makeR (enc := encN) (0 : Int) Ts39 rfl rfl rfl rfl rfl hg1 (by decide) fun b2 w4 N2 => ?_)
    replace H := H.made' (k := 1) (t := 3) (enc := encN) (l := (List.replicate (Int.toNat a0.points) (0 : Int))) N2 N2.blk (fun _ => rfl) rfl (by first | decide | omega | (simp; done) | (simp; omega))
    replace R0 := H.ext
    refine LW.pure rfl rfl (RV.assign rfl) ?_
    refine LW.nil (hK5 _ _ ?_)
    refine CW.seqJ (fun ρ wl2 => (∃ (l1 : List Int), ref01_best_k1 r1 l1 = some res ∧ ρ = [(2, .slice none 0 0), (3, .int .i64 0), (5, .slice A19_0 r1.length c19_0), (11, .slice (some ⟨b2, 0, none⟩) l1.length (((List.replicate (Int.toNat a0.points) (0 : Int))).length))] ∧ Hp w wl2 [.tab A19_0 c19_0 39 hs19_0 3 1 (encM encN r1), .own (some ⟨b2, 0, none⟩) (((List.replicate (Int.toNat a0.points) (0 : Int))).length) 3 1 (List.map encN l1)])) ?_ ?_
    ·
      rintro _ wl2 ⟨l1, F, rfl, H⟩
      have R0 := H.ext
      unfold ref01_best_k1 at F
      refine CW.seq fun K6 hK6 => ?_
      obtain ⟨r2, hr2, F⟩ := bnd_some F
      refine CW.region ?_
      refine LW.pure rfl rfl (RV.move rfl) ?_
      refine LW.pure rfl rfl (RV.move rfl) ?_
      refine LW.go rfl rfl (OW.call Tc99 rfl (ref01_det_ok (a0 := r1) (H.tab 0 rfl).sl2 hr2) ?_)
      rintro _ w5 ⟨rfl, E3⟩
      refine ⟨_, rfl, ?_⟩
      replace H := H.grow E3
      replace R0 := H.ext
      refine LW.pure rfl rfl (RV.assign rfl) ?_
      refine LW.pure rfl rfl (RV.assign rfl) ?_
      refine LW.nil (hK6 _ _ ?_)
      refine CW.ret ?_
      obtain rfl := Option.some.inj F
      refine ⟨_, (ResOK.two rfl rfl), ?_⟩
      replace H := H.pick (L' := [.own (some ⟨b2, 0, none⟩) (((List.replicate (Int.toNat a0.points) (0 : Int))).length) 3 1 (List.map encN l1)]) [1] (by decide) rfl
      replace R0 := H.ext
      exact ⟨(some ⟨b2, 0, none⟩), (((List.replicate (Int.toNat a0.points) (0 : Int))).length), (by first | rfl | (simp; done) | (simp; omega)), H⟩
    ·
      intro K7 hK7 jK2163
      refine CW.seq fun K8 hK8 => ?_
      refine CW.region ?_
      refine LW.pure rfl rfl (RV.assign rfl) ?_
      refine LW.nil (hK8 _ _ ?_)
      refine CW.block ?_
      replace H := H.pick (L' := [.own A17_0 c17_0 3 1 (List.map encN r3), .tab A19_0 c19_0 39 hs19_0 3 1 (encM encN r1), .own Al4 cl4 3 1 (List.map encN l4), .own (some ⟨b2, 0, none⟩) (((List.replicate (Int.toNat a0.points) (0 : Int))).length) 3 1 (List.map encN ((List.replicate (Int.toNat a0.points) (0 : Int))))]) [1, 2, 3, 0] (by decide) rfl
      replace R0 := H.ext
      refine CW.loop (fun meas ρ wl3 => ∃ (t12_1 : Int) (l3 : List Int), ref01_best_L2 r3 r1 l4 meas t12_1 l3 = some res ∧ ρ = [(2, .slice none 0 0), (3, .int .i64 0), (4, .slice A17_0 r3.length c17_0), (5, .slice A19_0 r1.length c19_0), (6, .slice Al4 l4.length cl4), (11, .slice (some ⟨b2, 0, none⟩) l3.length (((List.replicate (Int.toNat a0.points) (0 : Int))).length)), (12, .int .i64 t12_1)] ∧ Hp w wl3 [.own A17_0 c17_0 3 1 (List.map encN r3), .tab A19_0 c19_0 39 hs19_0 3 1 (encM encN r1), .own Al4 cl4 3 1 (List.map encN l4), .own (some ⟨b2, 0, none⟩) (((List.replicate (Int.toNat a0.points) (0 : Int))).length) 3 1 (List.map encN l3)]) FU ⟨_, ?_, ((0 : Int)), ((List.replicate (Int.toNat a0.points) (0 : Int))), F, rfl, H⟩ ?_
      · exact ⟨rfl, rfl, (look_slice rfl (by first | rfl | (simp; done) | omega | (simp; omega))), (look_slice rfl (by first | rfl | (simp; done) | omega | (simp; omega))), (look_slice rfl (by first | rfl | (simp; done) | omega | (simp; omega))), (look_slice rfl (by first | rfl | (simp; done) | omega | (simp; omega))), rfl, trivial⟩
      rintro mk1 _ wl3 ⟨t12_1, l3, F, rfl, H⟩
      have R0 := H.ext
      replace F := ref01_best_L2_s F
      obtain ⟨mk1, rfl, F⟩ := F
      generalize hrec1 : ref01_best_L2 r3 r1 l4 mk1 = rec1 at F
      unfold ref01_best_B2 at F
      refine CW.seq fun K9 hK9 => ?_
      refine CW.seq fun K10 hK10 => ?_
      refine CW.region ?_
      refine LW.pure rfl rfl (RV.move rfl) ?_
      refine LW.pure rfl rfl (RV.move rfl) ?_
      refine LW.pure rfl rfl (RV.len Ts39 rfl) ?_
      refine LW.pure rfl rfl (RV.lss rfl rfl) ?_
      refine LW.nil (hK10 _ _ ?_)
      by_cases hp1 : t12_1 < ((r3.length : Int))
      ·
        replace F := ite_y hp1 F
        have hq1 := dec_t hp1
        refine CW.condT rfl hq1 ?_
        refine CW.skip (hK9 _ _ ?_)
        refine CW.seqJ (fun ρ wl4 => (∃ (l2 : List Int), ref01_best_k2 t12_1 rec1 l2 = some res ∧ ρ = [(2, .slice none 0 0), (3, .int .i64 0), (4, .slice A17_0 r3.length c17_0), (5, .slice A19_0 r1.length c19_0), (6, .slice Al4 l4.length cl4), (11, .slice (some ⟨b2, 0, none⟩) l2.length (((List.replicate (Int.toNat a0.points) (0 : Int))).length)), (12, .int .i64 t12_1)] ∧ Hp w wl4 [.own A17_0 c17_0 3 1 (List.map encN r3), .tab A19_0 c19_0 39 hs19_0 3 1 (encM encN r1), .own Al4 cl4 3 1 (List.map encN l4), .own (some ⟨b2, 0, none⟩) (((List.replicate (Int.toNat a0.points) (0 : Int))).length) 3 1 (List.map encN l2)])) ?_ ?_
        ·
          rintro _ wl4 ⟨l2, F, rfl, H⟩
          have R0 := H.ext
          unfold ref01_best_k2 at F
          obtain ⟨hg2, F⟩ := gd_some F
          refine CW.region ?_
          refine LW.pure rfl rfl (RV.move rfl) ?_
          refine LW.pure rfl rfl (RV.add rfl rfl hg2) ?_
          refine LW.pure rfl rfl (RV.assign rfl) ?_
          refine LW.nil ?_
          subst hrec1
          refine ⟨mk1, Nat.lt_succ_self _, _, ?_, (t12_1 + 1), l2, F, rfl, H⟩
          exact ⟨rfl, rfl, (look_slice rfl (by first | rfl | (simp; done) | omega | (simp; omega))), (look_slice rfl (by first | rfl | (simp; done) | omega | (simp; omega))), (look_slice rfl (by first | rfl | (simp; done) | omega | (simp; omega))), (look_slice rfl (by first | rfl | (simp; done) | omega | (simp; omega))), rfl, trivial⟩
        ·
          intro K11 hK11 jK2343
          refine CW.block ?_
          refine CW.seq fun K12 hK12 => ?_
          refine CW.region ?_
          refine LW.pure rfl rfl (RV.assign rfl) ?_
          refine LW.nil (hK12 _ _ ?_)
          refine CW.seqJ (fun ρ wl5 => (∃ (m1 : List (List Int)) (hsm1 : List (Option Addr × Nat)) (Am1 : Option Addr) (cm1 : Nat), ref01_best_k3 r3 t12_1 l3 rec1 m1 = some res ∧ ρ = [(2, .slice none 0 0), (3, .int .i64 0), (4, .slice A17_0 r3.length c17_0), (5, .slice A19_0 r1.length c19_0), (6, .slice Al4 l4.length cl4), (11, .slice (some ⟨b2, 0, none⟩) l3.length (((List.replicate (Int.toNat a0.points) (0 : Int))).length)), (12, .int .i64 t12_1), (13, .slice Am1 m1.length cm1)] ∧ Hp w wl5 [.own A17_0 c17_0 3 1 (List.map encN r3), .tab A19_0 c19_0 39 hs19_0 3 1 (encM encN r1), .own Al4 cl4 3 1 (List.map encN l4), .own (some ⟨b2, 0, none⟩) (((List.replicate (Int.toNat a0.points) (0 : Int))).length) 3 1 (List.map encN l3), .tab Am1 cm1 39 hsm1 3 1 (encM encN m1)])) ?_ ?_
          ·
            rintro _ wl5 ⟨m1, hsm1, Am1, cm1, F, rfl, H⟩
            have R0 := H.ext
            unfold ref01_best_k3 at F
            obtain ⟨x1, hbx1, hx1, F⟩ := ix_some F
            obtain ⟨r4, hr4, F⟩ := bnd_some F
            obtain ⟨x2, hbx2, hx2, F⟩ := ix_some F
            refine CW.draw [8] (fun _ => True) (.cons 0 1 (.cons 1 1 (.cons 2 1 (.cons 3 1 (.cons 4 1 (.cons 5 1 (.cons 6 0 (.cons 7 1 (.cons 8 0 .nil))))))))) mixed (by kernel_rfl) fun w6 E4 => ?_
            replace H := H.grow E4
            replace R0 := H.ext
            refine DW.fix rfl rfl rfl (fun _ EQ => RV.move rfl) ?_
            refine DW.fix rfl rfl rfl (fun _ EQ => RV.move rfl) ?_
            refine DW.fix rfl rfl rfl (fun _ EQ => RV.move rfl) ?_
            refine DW.fix rfl rfl rfl (fun _ EQ => RV.indexAddr Ts39 rfl rfl hbx1 ((H.own 0 rfl).sl.addr_ hx1)) ?_
            refine DW.fix rfl rfl rfl (fun _ EQ => RV.load1 Tk3 rfl (((H.grow EQ).own 0 rfl).sl.at_ hx1) rfl) ?_
            refine DW.fix rfl rfl rfl (fun _ EQ => RV.move rfl) ?_
            refine DW.sole rfl rfl rfl (OW.call Tc99 rfl (ref01_det_ok (a0 := m1) (H.tab 4 rfl).sl2 hr4) ?_)
            rintro _ w7 ⟨rfl, E5⟩
            refine ⟨_, rfl, fun _ => E5, ModX.ext E5, ?_⟩
            replace H := H.grow E5
            replace R0 := H.ext
            refine DW.fix rfl rfl rfl (fun _ EQ => RV.indexAddr Ts39 rfl rfl hbx2 ⟨_, rfl⟩) ?_
            refine DW.sole rfl rfl rfl (OW.storeO (enc := encN) (vs := [.int .i64 r4]) 0 (r4) Tk3 rfl rfl (H.own 3 rfl) (fun _ => rfl) rfl hx2 rfl rfl (by decide) rfl rfl fun w8 M1 O1 => ?_)
            refine ⟨fun h => absurd h (by decide), M1.modx (fun _ _ => trivial), ?_⟩
            replace H : Hp w w8 [.own A17_0 c17_0 3 1 (List.map encN r3), .tab A19_0 c19_0 39 hs19_0 3 1 (encM encN r1), .own Al4 cl4 3 1 (List.map encN l4), .own (some ⟨b2, 0, none⟩) (((List.replicate (Int.toNat a0.points) (0 : Int))).length) 3 1 (List.map encN ((l3.set (Int.toNat x1) r4))), .tab Am1 cm1 39 hsm1 3 1 (encM encN m1)] := H.mod 3 rfl M1 O1 (.inl rfl)
            replace R0 := H.ext
            replace H := H.pick (L' := [.own A17_0 c17_0 3 1 (List.map encN r3), .tab A19_0 c19_0 39 hs19_0 3 1 (encM encN r1), .own Al4 cl4 3 1 (List.map encN l4), .own (some ⟨b2, 0, none⟩) (((List.replicate (Int.toNat a0.points) (0 : Int))).length) 3 1 (List.map encN ((l3.set (Int.toNat x1) r4)))]) [0, 1, 2, 3] (by decide) rfl
            replace R0 := H.ext
            refine DW.nil (jK2343 _ _ ⟨_, ?_, ⟨((l3.set (Int.toNat x1) r4)), F, rfl, H⟩⟩)
            exact ⟨rfl, rfl, (look_slice rfl (by first | rfl | (simp; done) | omega | (simp; omega))), (look_slice rfl (by first | rfl | (simp; done) | omega | (simp; omega))), (look_slice rfl (by first | rfl | (simp; done) | omega | (simp; omega))), (look_slice rfl (by first | rfl | (simp; done) | omega | (simp; omega))), rfl, trivial⟩
          ·
            intro K13 hK13 jK2361
            refine CW.seq fun K14 hK14 => ?_
            refine CW.region ?_
            refine LW.pure rfl rfl (RV.assign rfl) ?_
            refine LW.nil (hK14 _ _ ?_)
            refine CW.block ?_
            replace H := H.nilTab encN 39 3 1
            replace R0 := H.ext
            replace H := H.pick (L' := [.own A17_0 c17_0 3 1 (List.map encN r3), .tab A19_0 c19_0 39 hs19_0 3 1 (encM encN r1), .own Al4 cl4 3 1 (List.map encN l4), .own (some ⟨b2, 0, none⟩) (((List.replicate (Int.toNat a0.points) (0 : Int))).length) 3 1 (List.map encN l3), .tab none 0 39 ([]) 3 1 (encM encN (([] : List (List Int))))]) [1, 2, 3, 4, 0] (by decide) rfl
            replace R0 := H.ext
            refine CW.loop (fun meas ρ wl6 => ∃ (t14_1 : Int) (m2 : List (List Int)) (hsm2 : List (Option Addr × Nat)) (Am2 : Option Addr) (cm2 : Nat), ref01_best_L1 r3 r1 l4 t12_1 l3 rec1 meas t14_1 m2 = some res ∧ ρ = [(2, .slice none 0 0), (3, .int .i64 0), (4, .slice A17_0 r3.length c17_0), (5, .slice A19_0 r1.length c19_0), (6, .slice Al4 l4.length cl4), (11, .slice (some ⟨b2, 0, none⟩) l3.length (((List.replicate (Int.toNat a0.points) (0 : Int))).length)), (12, .int .i64 t12_1), (13, .slice Am2 m2.length cm2), (14, .int .i64 t14_1)] ∧ Hp w wl6 [.own A17_0 c17_0 3 1 (List.map encN r3), .tab A19_0 c19_0 39 hs19_0 3 1 (encM encN r1), .own Al4 cl4 3 1 (List.map encN l4), .own (some ⟨b2, 0, none⟩) (((List.replicate (Int.toNat a0.points) (0 : Int))).length) 3 1 (List.map encN l3), .tab Am2 cm2 39 hsm2 3 1 (encM encN m2)]) FU ⟨_, ?_, ((0 : Int)), (([] : List (List Int))), ([]), none, 0, F, rfl, H⟩ ?_
            · exact ⟨rfl, rfl, (look_slice rfl (by first | rfl | (simp; done) | omega | (simp; omega))), (look_slice rfl (by first | rfl | (simp; done) | omega | (simp; omega))), (look_slice rfl (by first | rfl | (simp; done) | omega | (simp; omega))), (look_slice rfl (by first | rfl | (simp; done) | omega | (simp; omega))), rfl, (look_slice rfl (by first | rfl | (simp; done) | omega | (simp; omega))), rfl, trivial⟩
            rintro mk2 _ wl6 ⟨t14_1, m2, hsm2, Am2, cm2, F, rfl, H⟩
            have R0 := H.ext
            replace F := ref01_best_L1_s F
            obtain ⟨mk2, rfl, F⟩ := F
            generalize hrec2 : ref01_best_L1 r3 r1 l4 t12_1 l3 rec1 mk2 = rec2 at F
            unfold ref01_best_B1 at F
            refine CW.seq fun K15 hK15 => ?_
            refine CW.seq fun K16 hK16 => ?_
            refine CW.region ?_
            refine LW.pure rfl rfl (RV.move rfl) ?_
            refine LW.pure rfl rfl (RV.move rfl) ?_
            refine LW.pure rfl rfl (RV.len Ts36 rfl) ?_
            refine LW.pure rfl rfl (RV.lss rfl rfl) ?_
            refine LW.nil (hK16 _ _ ?_)
            by_cases hp2 : t14_1 < ((r1.length : Int))
            ·
              replace F := ite_y hp2 F
              have hq2 := dec_t hp2
              refine CW.condT rfl hq2 ?_
              refine CW.skip (hK15 _ _ ?_)
              refine CW.seq fun K17 hK17 => ?_
              refine CW.block ?_
              refine CW.seq fun K18 hK18 => ?_
              obtain ⟨x3, hbx3, hx3, F⟩ := ix_some F
              obtain ⟨hg3, F⟩ := gd_some F
              refine CW.region ?_
              refine LW.go rfl rfl (OW.buildSlice (e := 3) (vs := []) (cs := []) rfl (fun _ => by kernel_rfl) fun b3 w9 N3 => ?_)
              replace H := H.made' (k := 1) (t := 3) (enc := encN) (l := ([] : List Int)) N3 N3.blk (fun _ => rfl) rfl (by first | decide | omega | (simp; done) | (simp; omega))
              replace R0 := H.ext
              refine LW.pure rfl rfl (RV.move rfl) ?_
              refine LW.pure rfl rfl (RV.move rfl) ?_
              obtain ⟨B1, e1, hh1⟩ := (H.tab 2 rfl).hd hx3
              refine LW.pure rfl rfl (RV.indexAddr Ts36 rfl rfl hbx3 ((H.tab 2 rfl).addr_ hx3)) ?_
              refine LW.pure rfl rfl (RV.load1 Tk39 rfl ((H.tab 2 rfl).cell hx3 hh1) rfl) ?_
              refine LW.go rfl rfl (OW.appendG (enc := encN) (l := ([] : List Int)) (xs := x3) Ts39 (look_slice rfl (by first | rfl | (simp; done) | (simp; omega))) rfl (H.own 0 rfl) ((H.tab 2 rfl).rowO hx3 hh1).sl (fun _ => rfl) rfl rfl hg3 (by decide) fun A2 c2 w10 O2 M2 D1 => ?_)
              replace H : Hp w w10 [.own A2 c2 3 1 (List.map encN ((([] : List Int) ++ x3))), .own A17_0 c17_0 3 1 (List.map encN r3), .tab A19_0 c19_0 39 hs19_0 3 1 (encM encN r1), .own Al4 cl4 3 1 (List.map encN l4), .own (some ⟨b2, 0, none⟩) (((List.replicate (Int.toNat a0.points) (0 : Int))).length) 3 1 (List.map encN l3), .tab Am2 cm2 39 hsm2 3 1 (encM encN m2)] := H.mod 0 rfl M2 O2 D1
              replace R0 := H.ext
              refine LW.pure rfl rfl (RV.assign rfl) ?_
              refine LW.nil (hK18 _ _ ?_)
              refine CW.seq fun K19 hK19 => ?_
              obtain ⟨x4, hbx4, hx4, F⟩ := ix_some F
              obtain ⟨x5, hbx5, hx5, F⟩ := ix_some F
              refine CW.region ?_
              refine LW.pure rfl rfl (RV.move rfl) ?_
              refine LW.pure rfl rfl (RV.move rfl) ?_
              refine LW.pure rfl rfl (RV.move rfl) ?_
              refine LW.pure rfl rfl (RV.move rfl) ?_
              refine LW.pure rfl rfl (RV.indexAddr Ts39 rfl rfl hbx4 ((H.own 3 rfl).sl.addr_ hx4)) ?_
              refine LW.pure rfl rfl (RV.load1 Tk3 rfl ((H.own 3 rfl).sl.at_ hx4) rfl) ?_
              refine LW.pure rfl rfl (RV.indexAddr Ts39 rfl rfl hbx5 ((H.own 0 rfl).sl.addr_ hx5)) ?_
              refine LW.go rfl rfl (OW.storeO (enc := encN) (vs := [.int .i64 x4]) 0 (x4) Tk3 rfl rfl (H.own 0 rfl) (fun _ => rfl) rfl hx5 rfl rfl (by decide) rfl rfl fun w11 M3 O3 => ?_)
              replace H : Hp w w11 [.own A2 c2 3 1 (List.map encN ((((([] : List Int) ++ x3)).set (Int.toNat t12_1) x4))), .own A17_0 c17_0 3 1 (List.map encN r3), .tab A19_0 c19_0 39 hs19_0 3 1 (encM encN r1), .own Al4 cl4 3 1 (List.map encN l4), .own (some ⟨b2, 0, none⟩) (((List.replicate (Int.toNat a0.points) (0 : Int))).length) 3 1 (List.map encN l3), .tab Am2 cm2 39 hsm2 3 1 (encM encN m2)] := H.mod 0 rfl M3 O3 (.inl rfl)
              replace R0 := H.ext
              refine LW.nil (hK19 _ _ ?_)
              obtain ⟨hg4, F⟩ := gd_some F
              refine CW.region ?_
              refine LW.pure rfl rfl (RV.move rfl) ?_
              refine LW.pure rfl rfl (RV.move rfl) ?_
              refine LW.go rfl rfl (OW.buildSlice (e := 39) (vs := [.slice A2 (((([] : List Int) ++ x3)).length) c2]) (cs := [.slice A2 (((([] : List Int) ++ x3)).length) c2]) rfl (fun _ => by kernel_rfl) fun b4 w12 N4 => ?_)
              have hce1 : ((([] : List Int) ++ x3)).length = ((((([] : List Int) ++ x3)).set (Int.toNat t12_1) x4)).length := by first | omega | (simp; done) | (simp; omega) | rfl
              replace H := H.made' (k := 1) (t := 39) (enc := encH) (l := ([((A2, c2), List.map encN ((((([] : List Int) ++ x3)).set (Int.toNat t12_1) x4)))] : List ((Option Addr × Nat) × List (List Value)))) N4 (by have q := N4.blk; simp only [List.flatMap_cons, List.flatMap_nil, encH, List.length_map, List.append_nil, List.cons_append, List.nil_append]; first | done | exact q | (rw [← hce1]; exact q) | (simp only [List.nil_append, List.append_nil, List.cons_append] at hce1 q; rw [← hce1]; exact q)) (fun _ => rfl) rfl (by first | decide | omega | (simp; done) | (simp; omega))
              replace R0 := H.ext
              refine LW.go rfl rfl (OW.appendT (enc := encN) (m := m2) (l := (((([] : List Int) ++ x3)).set (Int.toNat t12_1) x4)) Ts36 rfl rfl (H.tab 6 rfl) (H.own 0 rfl).sl rfl hg4 (by decide) fun A3 c3 w13 O4 M4 D2 => ?_)
              replace H : Hp w w13 [.own (some ⟨b4, 0, none⟩) ((([((A2, c2), List.map encN ((((([] : List Int) ++ x3)).set (Int.toNat t12_1) x4)))] : List ((Option Addr × Nat) × List (List Value)))).length) 39 1 (List.map encH (([((A2, c2), List.map encN ((((([] : List Int) ++ x3)).set (Int.toNat t12_1) x4)))] : List ((Option Addr × Nat) × List (List Value))))), .own A17_0 c17_0 3 1 (List.map encN r3), .tab A19_0 c19_0 39 hs19_0 3 1 (encM encN r1), .own Al4 cl4 3 1 (List.map encN l4), .own (some ⟨b2, 0, none⟩) (((List.replicate (Int.toNat a0.points) (0 : Int))).length) 3 1 (List.map encN l3), .tab A3 c3 39 ((hsm2 ++ [(A2, c2)])) 3 1 (encM encN ((m2 ++ [(((([] : List Int) ++ x3)).set (Int.toNat t12_1) x4)])))] := H.tabPush 6 1 (by decide) rfl rfl M4 D2 O4
              replace R0 := H.ext
              refine LW.pure rfl rfl (RV.assign rfl) ?_
              refine LW.nil (hK17 _ _ ?_)
              obtain ⟨hg5, F⟩ := gd_some F
              refine CW.region ?_
              refine LW.pure rfl rfl (RV.move rfl) ?_
              refine LW.pure rfl rfl (RV.add rfl rfl hg5) ?_
              refine LW.pure rfl rfl (RV.assign rfl) ?_
              refine LW.nil ?_
              replace H := H.pick (L' := [.own A17_0 c17_0 3 1 (List.map encN r3), .tab A19_0 c19_0 39 hs19_0 3 1 (encM encN r1), .own Al4 cl4 3 1 (List.map encN l4), .own (some ⟨b2, 0, none⟩) (((List.replicate (Int.toNat a0.points) (0 : Int))).length) 3 1 (List.map encN l3), .tab A3 c3 39 ((hsm2 ++ [(A2, c2)])) 3 1 (encM encN ((m2 ++ [(((([] : List Int) ++ x3)).set (Int.toNat t12_1) x4)])))]) [1, 2, 3, 4, 5] (by decide) rfl
              replace R0 := H.ext
              subst hrec2
              refine ⟨mk2, Nat.lt_succ_self _, _, ?_, (t14_1 + 1), ((m2 ++ [(((([] : List Int) ++ x3)).set (Int.toNat t12_1) x4)])), ((hsm2 ++ [(A2, c2)])), A3, c3, F, rfl, H⟩
              exact ⟨rfl, rfl, (look_slice rfl (by first | rfl | (simp; done) | omega | (simp; omega))), (look_slice rfl (by first | rfl | (simp; done) | omega | (simp; omega))), (look_slice rfl (by first | rfl | (simp; done) | omega | (simp; omega))), (look_slice rfl (by first | rfl | (simp; done) | omega | (simp; omega))), rfl, (look_slice rfl (by first | rfl | (simp; done) | omega | (simp; omega))), rfl, trivial⟩
            ·
              replace F := ite_n hp2 F
              have hq2 := dec_f hp2
              refine CW.condF rfl hq2 ?_
              refine CW.exit (jK2361 _ _ ⟨_, ?_, ⟨m2, hsm2, Am2, cm2, F, rfl, H⟩⟩)
              exact ⟨rfl, rfl, (look_slice rfl (by first | rfl | (simp; done) | omega | (simp; omega))), (look_slice rfl (by first | rfl | (simp; done) | omega | (simp; omega))), (look_slice rfl (by first | rfl | (simp; done) | omega | (simp; omega))), (look_slice rfl (by first | rfl | (simp; done) | omega | (simp; omega))), rfl, (look_slice rfl (by first | rfl | (simp; done) | omega | (simp; omega))), trivial⟩
      ·
        replace F := ite_n hp1 F
        have hq1 := dec_f hp1
        refine CW.condF rfl hq1 ?_
        replace H := H.pick (L' := [.tab A19_0 c19_0 39 hs19_0 3 1 (encM encN r1), .own (some ⟨b2, 0, none⟩) (((List.replicate (Int.toNat a0.points) (0 : Int))).length) 3 1 (List.map encN l3)]) [1, 3] (by decide) rfl
        replace R0 := H.ext
        refine CW.exit (jK2163 _ _ ⟨_, ?_, ⟨l3, F, rfl, H⟩⟩)
        exact ⟨rfl, rfl, (look_slice rfl (by first | rfl | (simp; done) | omega | (simp; omega))), (look_slice rfl (by first | rfl | (simp; done) | omega | (simp; omega))), trivial⟩
  ·
    intro K20 hK20 jK2378
    refine CW.seq fun K21 hK21 => ?_
    refine CW.region ?_
    refine LW.pure rfl rfl (RV.assign rfl) ?_
    refine LW.nil (hK21 _ _ ?_)
    refine CW.block ?_
    replace H := H.nilOwn 3 1
    replace R0 := H.ext
    replace H := H.pick (L' := [.own A17_0 c17_0 3 1 (List.map encN r3), .tab A19_0 c19_0 39 hs19_0 3 1 (encM encN r1), .own none 0 3 1 (List.map encN (([] : List Int))), .blk b1 24 [.int .i64 a0.points, .slice A_a0_readings a0.readings.length c_a0_readings]]) [2, 1, 0, 3] (by decide) rfl
    replace R0 := H.ext
    refine CW.loop (fun meas ρ wl7 => ∃ (t7_1 : Int) (l6 : List Int) (Al6 : Option Addr) (cl6 : Nat), ref01_best_L4 a0 r3 r1 meas t7_1 l6 = some res ∧ ρ = [(1, .pointer (some (⟨b1, 0, none⟩))), (2, .slice none 0 0), (3, .int .i64 0), (4, .slice A17_0 r3.length c17_0), (5, .slice A19_0 r1.length c19_0), (6, .slice Al6 l6.length cl6), (7, .int .i64 t7_1)] ∧ Hp w wl7 [.own A17_0 c17_0 3 1 (List.map encN r3), .tab A19_0 c19_0 39 hs19_0 3 1 (encM encN r1), .own Al6 cl6 3 1 (List.map encN l6), .blk b1 24 [.int .i64 a0.points, .slice A_a0_readings a0.readings.length c_a0_readings]]) FU ⟨_, ?_, ((0 : Int)), (([] : List Int)), none, 0, F, rfl, H⟩ ?_
    · exact ⟨rfl, rfl, rfl, (look_slice rfl (by first | rfl | (simp; done) | omega | (simp; omega))), (look_slice rfl (by first | rfl | (simp; done) | omega | (simp; omega))), (look_slice rfl (by first | rfl | (simp; done) | omega | (simp; omega))), rfl, trivial⟩
    rintro mk3 _ wl7 ⟨t7_1, l6, Al6, cl6, F, rfl, H⟩
    have R0 := H.ext
    replace F := ref01_best_L4_s F
    obtain ⟨mk3, rfl, F⟩ := F
    generalize hrec3 : ref01_best_L4 a0 r3 r1 mk3 = rec3 at F
    unfold ref01_best_B4 at F
    refine CW.seq fun K22 hK22 => ?_
    refine CW.seq fun K23 hK23 => ?_
    refine CW.region ?_
    refine LW.pure rfl rfl (RV.move rfl) ?_
    refine LW.pure rfl rfl (RV.move rfl) ?_
    refine LW.pure rfl rfl (RV.len Ts39 rfl) ?_
    refine LW.pure rfl rfl (RV.lss rfl rfl) ?_
    refine LW.nil (hK23 _ _ ?_)
    by_cases hp3 : t7_1 < ((r3.length : Int))
    ·
      replace F := ite_y hp3 F
      have hq3 := dec_t hp3
      refine CW.condT rfl hq3 ?_
      refine CW.skip (hK22 _ _ ?_)
      refine CW.seqJ (fun ρ wl8 => (∃ (l5 : List Int) (Al5 : Option Addr) (cl5 : Nat), ref01_best_k5 t7_1 rec3 l5 = some res ∧ ρ = [(1, .pointer (some (⟨b1, 0, none⟩))), (2, .slice none 0 0), (3, .int .i64 0), (4, .slice A17_0 r3.length c17_0), (5, .slice A19_0 r1.length c19_0), (6, .slice Al5 l5.length cl5), (7, .int .i64 t7_1)] ∧ Hp w wl8 [.own A17_0 c17_0 3 1 (List.map encN r3), .tab A19_0 c19_0 39 hs19_0 3 1 (encM encN r1), .own Al5 cl5 3 1 (List.map encN l5), .blk b1 24 [.int .i64 a0.points, .slice A_a0_readings a0.readings.length c_a0_readings]])) ?_ ?_
      ·
        rintro _ wl8 ⟨l5, Al5, cl5, F, rfl, H⟩
        have R0 := H.ext
        unfold ref01_best_k5 at F
        obtain ⟨hg6, F⟩ := gd_some F
        refine CW.region ?_
        refine LW.pure rfl rfl (RV.move rfl) ?_
        refine LW.pure rfl rfl (RV.add rfl rfl hg6) ?_
        refine LW.pure rfl rfl (RV.assign rfl) ?_
        refine LW.nil ?_
        subst hrec3
        refine ⟨mk3, Nat.lt_succ_self _, _, ?_, (t7_1 + 1), l5, Al5, cl5, F, rfl, H⟩
        exact ⟨rfl, rfl, rfl, (look_slice rfl (by first | rfl | (simp; done) | omega | (simp; omega))), (look_slice rfl (by first | rfl | (simp; done) | omega | (simp; omega))), (look_slice rfl (by first | rfl | (simp; done) | omega | (simp; omega))), rfl, trivial⟩
      ·
        intro K24 hK24 jK2798
        refine CW.block ?_
        refine CW.seq fun K25 hK25 => ?_
        refine CW.region ?_
        refine LW.pure rfl rfl (RV.assign rfl) ?_
        refine LW.nil (hK25 _ _ ?_)
        refine CW.seqJ (fun ρ wl9 => (∃ (t8_1 : Int), ref01_best_k6 t7_1 l6 rec3 t8_1 = some res ∧ ρ = [(1, .pointer (some (⟨b1, 0, none⟩))), (2, .slice none 0 0), (3, .int .i64 0), (4, .slice A17_0 r3.length c17_0), (5, .slice A19_0 r1.length c19_0), (6, .slice Al6 l6.length cl6), (7, .int .i64 t7_1), (8, .int .i64 t8_1)] ∧ Hp w wl9 [.own A17_0 c17_0 3 1 (List.map encN r3), .tab A19_0 c19_0 39 hs19_0 3 1 (encM encN r1), .own Al6 cl6 3 1 (List.map encN l6), .blk b1 24 [.int .i64 a0.points, .slice A_a0_readings a0.readings.length c_a0_readings]])) ?_ ?_
        ·
          rintro _ wl9 ⟨t8_1, F, rfl, H⟩
          have R0 := H.ext
          unfold ref01_best_k6 at F
          obtain ⟨hg7, F⟩ := gd_some F
          refine CW.region ?_
          refine LW.pure rfl rfl (RV.move rfl) ?_
          refine LW.pure rfl rfl (RV.move rfl) ?_
          refine LW.go rfl rfl (OW.buildSlice (e := 3) (vs := [.int .i64 t8_1]) (cs := [.int .i64 t8_1]) rfl (fun _ => by kernel_rfl) fun b5 w14 N5 => ?_)
          replace H := H.made' (k := 1) (t := 3) (enc := encN) (l := ([t8_1] : List Int)) N5 N5.blk (fun _ => rfl) rfl (by first | decide | omega | (simp; done) | (simp; omega))
          replace R0 := H.ext
          refine LW.go rfl rfl (OW.appendG (enc := encN) (l := l6) (xs := ([t8_1] : List Int)) Ts39 rfl (look_slice rfl (by first | rfl | (simp; done) | (simp; omega))) (H.own 3 rfl) (H.own 0 rfl).sl (fun _ => rfl) rfl rfl hg7 (by decide) fun A4 c4 w15 O5 M5 D3 => ?_)
          replace H : Hp w w15 [.own (some ⟨b5, 0, none⟩) ((([t8_1] : List Int)).length) 3 1 (List.map encN (([t8_1] : List Int))), .own A17_0 c17_0 3 1 (List.map encN r3), .tab A19_0 c19_0 39 hs19_0 3 1 (encM encN r1), .own A4 c4 3 1 (List.map encN ((l6 ++ ([t8_1] : List Int)))), .blk b1 24 [.int .i64 a0.points, .slice A_a0_readings a0.readings.length c_a0_readings]] := H.mod 3 rfl M5 O5 D3
          replace R0 := H.ext
          refine LW.pure rfl rfl (RV.assign rfl) ?_
          replace H := H.pick (L' := [.own A17_0 c17_0 3 1 (List.map encN r3), .tab A19_0 c19_0 39 hs19_0 3 1 (encM encN r1), .own A4 c4 3 1 (List.map encN ((l6 ++ ([t8_1] : List Int)))), .blk b1 24 [.int .i64 a0.points, .slice A_a0_readings a0.readings.length c_a0_readings]]) [1, 2, 3, 4] (by decide) rfl
          replace R0 := H.ext
          refine LW.nil (jK2798 _ _ ⟨_, ?_, ⟨((l6 ++ ([t8_1] : List Int))), A4, c4, F, rfl, H⟩⟩)
          exact ⟨rfl, rfl, rfl, (look_slice rfl (by first | rfl | (simp; done) | omega | (simp; omega))), (look_slice rfl (by first | rfl | (simp; done) | omega | (simp; omega))), (look_slice rfl (by first | rfl | (simp; done) | omega | (simp; omega))), rfl, trivial⟩
        ·
          intro K26 hK26 jK2840
          refine CW.seq fun K27 hK27 => ?_
          refine CW.region ?_
          refine LW.pure rfl rfl (RV.assign rfl) ?_
          refine LW.nil (hK27 _ _ ?_)
          refine CW.block ?_
          refine CW.loop (fun meas ρ wl10 => ∃ (t8_4 : Int) (t9_1 : Int), ref01_best_L3 a0 r3 t7_1 l6 rec3 meas t8_4 t9_1 = some res ∧ ρ = [(1, .pointer (some (⟨b1, 0, none⟩))), (2, .slice none 0 0), (3, .int .i64 0), (4, .slice A17_0 r3.length c17_0), (5, .slice A19_0 r1.length c19_0), (6, .slice Al6 l6.length cl6), (7, .int .i64 t7_1), (8, .int .i64 t8_4), (9, .int .i64 t9_1)] ∧ Hp w wl10 [.own A17_0 c17_0 3 1 (List.map encN r3), .tab A19_0 c19_0 39 hs19_0 3 1 (encM encN r1), .own Al6 cl6 3 1 (List.map encN l6), .blk b1 24 [.int .i64 a0.points, .slice A_a0_readings a0.readings.length c_a0_readings]]) FU ⟨_, ?_, ((0 : Int)), ((0 : Int)), F, rfl, H⟩ ?_
          · exact ⟨rfl, rfl, rfl, (look_slice rfl (by first | rfl | (simp; done) | omega | (simp; omega))), (look_slice rfl (by first | rfl | (simp; done) | omega | (simp; omega))), (look_slice rfl (by first | rfl | (simp; done) | omega | (simp; omega))), rfl, rfl, rfl, trivial⟩
          rintro mk4 _ wl10 ⟨t8_4, t9_1, F, rfl, H⟩
          have R0 := H.ext
          replace F := ref01_best_L3_s F
          obtain ⟨mk4, rfl, F⟩ := F
          generalize hrec4 : ref01_best_L3 a0 r3 t7_1 l6 rec3 mk4 = rec4 at F
          unfold ref01_best_B3 at F
          refine CW.seq fun K28 hK28 => ?_
          refine CW.seq fun K29 hK29 => ?_
          refine CW.region ?_
          refine LW.pure rfl rfl (RV.move rfl) ?_
          refine LW.pure rfl rfl (RV.fieldAddr Tf24_1 rfl) ?_
          refine LW.pure rfl rfl (RV.load1 Tk22 rfl ((H.blk 3 rfl).cells.off 1) rfl) ?_
          refine LW.pure rfl rfl (RV.len Ts22 rfl) ?_
          refine LW.pure rfl rfl (RV.lss rfl rfl) ?_
          refine LW.nil (hK29 _ _ ?_)
          by_cases hp4 : t9_1 < ((a0.readings.length : Int))
          ·
            replace F := ite_y hp4 F
            have hq4 := dec_t hp4
            refine CW.condT rfl hq4 ?_
            refine CW.skip (hK28 _ _ ?_)
            refine CW.seqJ (fun ρ wl11 => (∃ (t8_2 : Int), ref01_best_k7 t9_1 rec4 t8_2 = some res ∧ ρ = [(1, .pointer (some (⟨b1, 0, none⟩))), (2, .slice none 0 0), (3, .int .i64 0), (4, .slice A17_0 r3.length c17_0), (5, .slice A19_0 r1.length c19_0), (6, .slice Al6 l6.length cl6), (7, .int .i64 t7_1), (8, .int .i64 t8_2), (9, .int .i64 t9_1)] ∧ Hp w wl11 [.own A17_0 c17_0 3 1 (List.map encN r3), .tab A19_0 c19_0 39 hs19_0 3 1 (encM encN r1), .own Al6 cl6 3 1 (List.map encN l6), .blk b1 24 [.int .i64 a0.points, .slice A_a0_readings a0.readings.length c_a0_readings]])) ?_ ?_
            ·
              rintro _ wl11 ⟨t8_2, F, rfl, H⟩
              have R0 := H.ext
              unfold ref01_best_k7 at F
              obtain ⟨hg8, F⟩ := gd_some F
              refine CW.region ?_
              refine LW.pure rfl rfl (RV.move rfl) ?_
              refine LW.pure rfl rfl (RV.add rfl rfl hg8) ?_
              refine LW.pure rfl rfl (RV.assign rfl) ?_
              refine LW.nil ?_
              subst hrec4
              refine ⟨mk4, Nat.lt_succ_self _, _, ?_, t8_2, (t9_1 + 1), F, rfl, H⟩
              exact ⟨rfl, rfl, rfl, (look_slice rfl (by first | rfl | (simp; done) | omega | (simp; omega))), (look_slice rfl (by first | rfl | (simp; done) | omega | (simp; omega))), (look_slice rfl (by first | rfl | (simp; done) | omega | (simp; omega))), rfl, rfl, rfl, trivial⟩
            ·
              intro K30 hK30 jK2875
              refine CW.block ?_
              refine CW.seq fun K31 hK31 => ?_
              obtain ⟨x6, hbx6, hx6, F⟩ := ix_some F
              refine CW.region ?_
              refine LW.pure rfl rfl (RV.fieldAddr Tf24_1 rfl) ?_
              refine LW.pure rfl rfl (RV.load1 Tk22 rfl ((H.blk 3 rfl).cells.off 1) rfl) ?_
              refine LW.pure rfl rfl (RV.move rfl) ?_
              refine LW.pure rfl rfl (RV.indexAddr Ts22 rfl rfl hbx6 (h_a0_readings.addr_ hx6)) ?_
              refine LW.pure rfl rfl (RV.loadA [.int .i64 x6.from_, .int .i64 x6.to_, .int .i64 x6.rise, .int .i64 x6.weight] Tk46 rfl ((h_a0_readings.at_ hx6).ext R0) rfl rfl) ?_
              refine LW.go rfl rfl (OW.alloc Tz46 fun b6 w16 N6 => ?_)
              replace H := H.new N6 N6.blk
              replace R0 := H.ext
              refine LW.go rfl rfl (OW.store Tk46 rfl rfl (H.blk 0 rfl) (off := 0) (vs := [.int .i64 x6.from_, .int .i64 x6.to_, .int .i64 x6.rise, .int .i64 x6.weight]) rfl rfl rfl rfl rfl fun w17 S1 => ?_)
              replace H : Hp w w17 [.blk b6 46 [.int .i64 x6.from_, .int .i64 x6.to_, .int .i64 x6.rise, .int .i64 x6.weight], .own A17_0 c17_0 3 1 (List.map encN r3), .tab A19_0 c19_0 39 hs19_0 3 1 (encM encN r1), .own Al6 cl6 3 1 (List.map encN l6), .blk b1 24 [.int .i64 a0.points, .slice A_a0_readings a0.readings.length c_a0_readings]] := H.stored 0 rfl S1
              replace R0 := H.ext
              refine LW.nil (hK31 _ _ ?_)
              refine CW.seqJ (fun ρ wl12 => (∃ (t8_3 : Int), ref01_best_k8 r3 t7_1 t9_1 rec4 x6 t8_3 = some res ∧ ρ = [(1, .pointer (some (⟨b1, 0, none⟩))), (2, .slice none 0 0), (3, .int .i64 0), (4, .slice A17_0 r3.length c17_0), (5, .slice A19_0 r1.length c19_0), (6, .slice Al6 l6.length cl6), (7, .int .i64 t7_1), (8, .int .i64 t8_3), (9, .int .i64 t9_1), (10, .pointer (some (⟨b6, 0, none⟩)))] ∧ Hp w wl12 [.own A17_0 c17_0 3 1 (List.map encN r3), .tab A19_0 c19_0 39 hs19_0 3 1 (encM encN r1), .own Al6 cl6 3 1 (List.map encN l6), .blk b1 24 [.int .i64 a0.points, .slice A_a0_readings a0.readings.length c_a0_readings], .blk b6 46 [.int .i64 x6.from_, .int .i64 x6.to_, .int .i64 x6.rise, .int .i64 x6.weight]])) ?_ ?_
              ·
                rintro _ wl12 ⟨t8_3, F, rfl, H⟩
                have R0 := H.ext
                unfold ref01_best_k8 at F
                refine CW.seq fun K32 hK32 => ?_
                obtain ⟨x7, hbx7, hx7, F⟩ := ix_some F
                refine CW.draw [] (fun _ => True) (.cons 0 1 (.cons 1 1 (.cons 2 1 (.cons 3 1 (.cons 4 1 (.cons 5 1 (.cons 6 1 .nil))))))) mixed (by kernel_rfl) fun w18 E6 => ?_
                replace H := H.grow E6
                replace R0 := H.ext
                refine DW.fix rfl rfl rfl (fun _ EQ => RV.fieldAddr Tf46_0 rfl) ?_
                refine DW.fix rfl rfl rfl (fun _ EQ => RV.load1 Tk3 rfl (((H.grow EQ).blk 4 rfl).cells.off 0) rfl) ?_
                refine DW.fix rfl rfl rfl (fun _ EQ => RV.move rfl) ?_
                refine DW.fix rfl rfl rfl (fun _ EQ => RV.move rfl) ?_
                refine DW.fix rfl rfl rfl (fun _ EQ => RV.indexAddr Ts39 rfl rfl hbx7 ((H.own 0 rfl).sl.addr_ hx7)) ?_
                refine DW.fix rfl rfl rfl (fun _ EQ => RV.load1 Tk3 rfl (((H.grow EQ).own 0 rfl).sl.at_ hx7) rfl) ?_
                refine DW.fix rfl rfl rfl (fun _ EQ => RV.eqi rfl rfl) ?_
                refine DW.nil (hK32 _ _ ?_)
                by_cases hp5 : x6.from_ = x7
                ·
                  replace F := ite_y hp5 F
                  have hq5 := dec_t hp5
                  refine CW.condT rfl hq5 ?_
                  obtain ⟨hg9, F⟩ := gd_some F
                  obtain ⟨hg10, F⟩ := gd_some F
                  refine CW.region ?_
                  refine LW.pure rfl rfl (RV.move rfl) ?_
                  refine LW.pure rfl rfl (RV.fieldAddr Tf46_3 rfl) ?_
                  refine LW.pure rfl rfl (RV.load1 Tk3 rfl ((H.blk 4 rfl).cells.off 3) rfl) ?_
                  refine LW.pure rfl rfl (RV.fieldAddr Tf46_2 rfl) ?_
                  refine LW.pure rfl rfl (RV.load1 Tk3 rfl ((H.blk 4 rfl).cells.off 2) rfl) ?_
                  refine LW.pure rfl rfl (RV.mul rfl rfl hg9) ?_
                  refine LW.pure rfl rfl (RV.sub rfl rfl hg10) ?_
                  refine LW.pure rfl rfl (RV.assign rfl) ?_
                  replace H := H.pick (L' := [.own A17_0 c17_0 3 1 (List.map encN r3), .tab A19_0 c19_0 39 hs19_0 3 1 (encM encN r1), .own Al6 cl6 3 1 (List.map encN l6), .blk b1 24 [.int .i64 a0.points, .slice A_a0_readings a0.readings.length c_a0_readings]]) [0, 1, 2, 3] (by decide) rfl
                  replace R0 := H.ext
                  refine LW.nil (jK2875 _ _ ⟨_, ?_, ⟨(t8_3 - (x6.weight * x6.rise)), F, rfl, H⟩⟩)
                  exact ⟨rfl, rfl, rfl, (look_slice rfl (by first | rfl | (simp; done) | omega | (simp; omega))), (look_slice rfl (by first | rfl | (simp; done) | omega | (simp; omega))), (look_slice rfl (by first | rfl | (simp; done) | omega | (simp; omega))), rfl, rfl, rfl, trivial⟩
                ·
                  replace F := ite_n hp5 F
                  have hq5 := dec_f hp5
                  refine CW.condF rfl hq5 ?_
                  replace H := H.pick (L' := [.own A17_0 c17_0 3 1 (List.map encN r3), .tab A19_0 c19_0 39 hs19_0 3 1 (encM encN r1), .own Al6 cl6 3 1 (List.map encN l6), .blk b1 24 [.int .i64 a0.points, .slice A_a0_readings a0.readings.length c_a0_readings]]) [0, 1, 2, 3] (by decide) rfl
                  replace R0 := H.ext
                  refine CW.skip (jK2875 _ _ ⟨_, ?_, ⟨t8_3, F, rfl, H⟩⟩)
                  exact ⟨rfl, rfl, rfl, (look_slice rfl (by first | rfl | (simp; done) | omega | (simp; omega))), (look_slice rfl (by first | rfl | (simp; done) | omega | (simp; omega))), (look_slice rfl (by first | rfl | (simp; done) | omega | (simp; omega))), rfl, rfl, rfl, trivial⟩
              ·
                intro K33 hK33 jK2879
                refine CW.seq fun K34 hK34 => ?_
                obtain ⟨x8, hbx8, hx8, F⟩ := ix_some F
                refine CW.draw [] (fun _ => True) (.cons 0 1 (.cons 1 1 (.cons 2 1 (.cons 3 1 (.cons 4 1 (.cons 5 1 (.cons 6 1 .nil))))))) mixed (by kernel_rfl) fun w19 E7 => ?_
                replace H := H.grow E7
                replace R0 := H.ext
                refine DW.fix rfl rfl rfl (fun _ EQ => RV.fieldAddr Tf46_1 rfl) ?_
                refine DW.fix rfl rfl rfl (fun _ EQ => RV.load1 Tk3 rfl (((H.grow EQ).blk 0 rfl).cells.off 1) rfl) ?_
                refine DW.fix rfl rfl rfl (fun _ EQ => RV.move rfl) ?_
                refine DW.fix rfl rfl rfl (fun _ EQ => RV.move rfl) ?_
                refine DW.fix rfl rfl rfl (fun _ EQ => RV.indexAddr Ts39 rfl rfl hbx8 ((H.own 1 rfl).sl.addr_ hx8)) ?_
                refine DW.fix rfl rfl rfl (fun _ EQ => RV.load1 Tk3 rfl (((H.grow EQ).own 1 rfl).sl.at_ hx8) rfl) ?_
                refine DW.fix rfl rfl rfl (fun _ EQ => RV.eqi rfl rfl) ?_
                refine DW.nil (hK34 _ _ ?_)
                by_cases hp6 : x6.to_ = x8
                ·
                  replace F := ite_y hp6 F
                  have hq6 := dec_t hp6
                  refine CW.condT rfl hq6 ?_
                  obtain ⟨hg11, F⟩ := gd_some F
                  obtain ⟨hg12, F⟩ := gd_some F
                  refine CW.region ?_
                  refine LW.pure rfl rfl (RV.move rfl) ?_
                  refine LW.pure rfl rfl (RV.fieldAddr Tf46_3 rfl) ?_
                  refine LW.pure rfl rfl (RV.load1 Tk3 rfl ((H.blk 0 rfl).cells.off 3) rfl) ?_
                  refine LW.pure rfl rfl (RV.fieldAddr Tf46_2 rfl) ?_
                  refine LW.pure rfl rfl (RV.load1 Tk3 rfl ((H.blk 0 rfl).cells.off 2) rfl) ?_
                  refine LW.pure rfl rfl (RV.mul rfl rfl hg11) ?_
                  refine LW.pure rfl rfl (RV.add rfl rfl hg12) ?_
                  refine LW.pure rfl rfl (RV.assign rfl) ?_
                  replace H := H.pick (L' := [.own A17_0 c17_0 3 1 (List.map encN r3), .tab A19_0 c19_0 39 hs19_0 3 1 (encM encN r1), .own Al6 cl6 3 1 (List.map encN l6), .blk b1 24 [.int .i64 a0.points, .slice A_a0_readings a0.readings.length c_a0_readings], .blk b6 46 [.int .i64 x6.from_, .int .i64 x6.to_, .int .i64 x6.rise, .int .i64 x6.weight]]) [1, 2, 3, 4, 0] (by decide) rfl
                  replace R0 := H.ext
                  refine LW.nil (jK2879 _ _ ⟨_, ?_, ⟨(t8_4 + (x6.weight * x6.rise)), F, rfl, H⟩⟩)
                  exact ⟨rfl, rfl, rfl, (look_slice rfl (by first | rfl | (simp; done) | omega | (simp; omega))), (look_slice rfl (by first | rfl | (simp; done) | omega | (simp; omega))), (look_slice rfl (by first | rfl | (simp; done) | omega | (simp; omega))), rfl, rfl, rfl, rfl, trivial⟩
                ·
                  replace F := ite_n hp6 F
                  have hq6 := dec_f hp6
                  refine CW.condF rfl hq6 ?_
                  replace H := H.pick (L' := [.own A17_0 c17_0 3 1 (List.map encN r3), .tab A19_0 c19_0 39 hs19_0 3 1 (encM encN r1), .own Al6 cl6 3 1 (List.map encN l6), .blk b1 24 [.int .i64 a0.points, .slice A_a0_readings a0.readings.length c_a0_readings], .blk b6 46 [.int .i64 x6.from_, .int .i64 x6.to_, .int .i64 x6.rise, .int .i64 x6.weight]]) [1, 2, 3, 4, 0] (by decide) rfl
                  replace R0 := H.ext
                  refine CW.skip (jK2879 _ _ ⟨_, ?_, ⟨t8_4, F, rfl, H⟩⟩)
                  exact ⟨rfl, rfl, rfl, (look_slice rfl (by first | rfl | (simp; done) | omega | (simp; omega))), (look_slice rfl (by first | rfl | (simp; done) | omega | (simp; omega))), (look_slice rfl (by first | rfl | (simp; done) | omega | (simp; omega))), rfl, rfl, rfl, rfl, trivial⟩
          ·
            replace F := ite_n hp4 F
            have hq4 := dec_f hp4
            refine CW.condF rfl hq4 ?_
            refine CW.exit (jK2840 _ _ ⟨_, ?_, ⟨t8_4, F, rfl, H⟩⟩)
            exact ⟨rfl, rfl, rfl, (look_slice rfl (by first | rfl | (simp; done) | omega | (simp; omega))), (look_slice rfl (by first | rfl | (simp; done) | omega | (simp; omega))), (look_slice rfl (by first | rfl | (simp; done) | omega | (simp; omega))), rfl, rfl, trivial⟩
    ·
      replace F := ite_n hp3 F
      have hq3 := dec_f hp3
      refine CW.condF rfl hq3 ?_
      refine CW.exit (jK2378 _ _ ⟨_, ?_, ⟨l6, Al6, cl6, F, rfl, H⟩⟩)
      exact ⟨rfl, rfl, rfl, (look_slice rfl (by first | rfl | (simp; done) | omega | (simp; omega))), (look_slice rfl (by first | rfl | (simp; done) | omega | (simp; omega))), (look_slice rfl (by first | rfl | (simp; done) | omega | (simp; omega))), trivial⟩
end Go.D1

set_option linter.unusedVariables false
set_option linter.unusedSimpArgs false
namespace Go.D1
open Go.Tb Go.Proofs Go.RowKit
theorem Tc75 : callable Try.prog 75 = true := by kernel_rfl
theorem Tc76 : callable Try.prog 76 = true := by kernel_rfl
theorem Tc77 : callable Try.prog 77 = true := by kernel_rfl
set_option maxRecDepth 20000 in
set_option maxHeartbeats 1000000 in
theorem ref01_Best_ok {a0 : Survey} {A_a0_readings : Option Addr} {c_a0_readings : Nat} {w : World} {res : (List Rat) × Int} (h_a0_readings : Sl w A_a0_readings c_a0_readings 4 (a0.readings.map encReading)) (F : ref01_Best a0 = some res) : Calls Try.prog 35 #[.agg #[.int .i64 a0.points, .slice A_a0_readings a0.readings.length c_a0_readings]] w (fun e w' => ∃ (A1 : Option Addr) (c1 : Nat), e = .returned (.tuple #[.slice A1 res.1.length c1, .int .i64 res.2]) ∧ Hp w w' [.own A1 c1 28 2 (List.map encRat res.1)]) := by
  refine calls_of_cw (args := [.agg #[.int .i64 a0.points, .slice A_a0_readings a0.readings.length c_a0_readings]]) Try.func35 rfl rfl rfl rfl ?_
  have H := Hp.start w
  have R0 := H.ext
  unfold ref01_Best at F
  refine CW.seq fun K1 hK1 => ?_
  refine CW.region ?_
  refine LW.go rfl rfl (OW.box rfl fun b1 w1 N1 => ?_)
  replace H := H.new N1 N1.blk
  replace R0 := H.ext
  refine LW.pure rfl rfl (RV.assign rfl) ?_
  refine LW.pure rfl rfl (RV.assign rfl) ?_
  refine LW.nil (hK1 _ _ ?_)
  refine CW.seq fun K2 hK2 => ?_
  refine CW.seq fun K3 hK3 => ?_
  obtain ⟨r3, hr3, F⟩ := bnd_some F
  refine CW.region ?_
  refine LW.pure rfl rfl (RV.loadA [.int .i64 a0.points, .slice A_a0_readings a0.readings.length c_a0_readings] Tk24 rfl (H.blk 0 rfl).cells rfl rfl) ?_
  refine LW.go rfl rfl (OW.call Tc26 rfl (ref01_Validate_ok (a0 := a0) (h_a0_readings.ext R0) hr3) ?_)
  rintro _ w2 ⟨rfl, E1⟩
  refine ⟨_, rfl, ?_⟩
  replace H := H.grow E1
  replace R0 := H.ext
  refine LW.pure rfl rfl (RV.assign rfl) ?_
  refine LW.nil (hK3 _ _ ?_)
  refine CW.seq fun K4 hK4 => ?_
  refine CW.region ?_
  refine LW.pure rfl rfl (RV.move rfl) ?_
  refine LW.pure rfl rfl (RV.nei rfl rfl) ?_
  refine LW.nil (hK4 _ _ ?_)
  by_cases hp1 : r3 = 0
  ·
    replace F := ite_y hp1 F
    have hq1 := dec_t hp1
    refine CW.condF rfl (not_f hq1) ?_
    refine CW.skip (hK2 _ _ ?_)
    refine CW.seq fun K5 hK5 => ?_
    obtain ⟨r1, hr1, F⟩ := bnd_some F
    refine CW.region ?_
    refine LW.pure rfl rfl (RV.loadA [.int .i64 a0.points, .slice A_a0_readings a0.readings.length c_a0_readings] Tk24 rfl (H.blk 0 rfl).cells rfl rfl) ?_
    refine LW.go rfl rfl (OW.call Tc75 rfl (ref01_best_ok (a0 := a0) (h_a0_readings.ext R0) hr1) ?_)
    rintro _ w3 ⟨A12_0, c12_0, rfl, E2⟩
    refine ⟨_, rfl, ?_⟩
    replace H : Hp w w3 [.own A12_0 c12_0 3 1 (List.map encN r1.1), .blk b1 24 [.int .i64 a0.points, .slice A_a0_readings a0.readings.length c_a0_readings]] := H.append E2
    replace R0 := H.ext
    refine LW.pure rfl rfl (RV.move rfl) ?_
    refine LW.pure rfl rfl (RV.extract rfl rfl) ?_
    refine LW.pure rfl rfl (RV.extract rfl rfl) ?_
    refine LW.pure rfl rfl (RV.assign rfl) ?_
    refine LW.pure rfl rfl (RV.assign rfl) ?_
    refine LW.nil (hK5 _ _ ?_)
    refine CW.seq fun K6 hK6 => ?_
    refine CW.region ?_
    refine LW.pure rfl rfl (RV.assign rfl) ?_
    refine LW.nil (hK6 _ _ ?_)
    refine CW.seqJ (fun ρ wl1 => (∃ (l1 : List Rat) (Al1 : Option Addr) (cl1 : Nat), ref01_Best_k1 l1 = some res ∧ ρ = [(2, .slice none 0 0), (3, .int .i64 0), (7, .slice Al1 l1.length cl1)] ∧ Hp w wl1 [.own Al1 cl1 28 2 (List.map encRat l1)])) ?_ ?_
    ·
      rintro _ wl1 ⟨l1, Al1, cl1, F, rfl, H⟩
      have R0 := H.ext
      unfold ref01_Best_k1 at F
      refine CW.seq fun K7 hK7 => ?_
      refine CW.region ?_
      refine LW.pure rfl rfl (RV.move rfl) ?_
      refine LW.pure rfl rfl (RV.assign rfl) ?_
      refine LW.pure rfl rfl (RV.assign rfl) ?_
      refine LW.nil (hK7 _ _ ?_)
      refine CW.ret ?_
      obtain rfl := Option.some.inj F
      refine ⟨_, (ResOK.two rfl rfl), ?_⟩
      exact ⟨Al1, cl1, (by first | rfl | (simp; done) | (simp; omega)), H⟩
    ·
      intro K8 hK8 jK47
      refine CW.seq fun K9 hK9 => ?_
      refine CW.region ?_
      refine LW.pure rfl rfl (RV.assign rfl) ?_
      refine LW.nil (hK9 _ _ ?_)
      refine CW.block ?_
      replace H := H.nilOwn 28 2
      replace R0 := H.ext
      replace H := H.pick (L' := [.own A12_0 c12_0 3 1 (List.map encN r1.1), .own none 0 28 2 (List.map encRat (([] : List Rat)))]) [1, 0] (by decide) rfl
      replace R0 := H.ext
      refine CW.loop (fun meas ρ wl2 => ∃ (t8_1 : Int) (l2 : List Rat) (Al2 : Option Addr) (cl2 : Nat), ref01_Best_L1 r1 meas t8_1 l2 = some res ∧ ρ = [(2, .slice none 0 0), (3, .int .i64 0), (5, .slice A12_0 r1.1.length c12_0), (6, .int .i64 r1.2), (7, .slice Al2 l2.length cl2), (8, .int .i64 t8_1)] ∧ Hp w wl2 [.own A12_0 c12_0 3 1 (List.map encN r1.1), .own Al2 cl2 28 2 (List.map encRat l2)]) FU ⟨_, ?_, ((0 : Int)), (([] : List Rat)), none, 0, F, rfl, H⟩ ?_
      · exact ⟨rfl, rfl, (look_slice rfl (by first | rfl | (simp; done) | omega | (simp; omega))), rfl, (look_slice rfl (by first | rfl | (simp; done) | omega | (simp; omega))), rfl, trivial⟩
      rintro mk1 _ wl2 ⟨t8_1, l2, Al2, cl2, F, rfl, H⟩
      have R0 := H.ext
      replace F := ref01_Best_L1_s F
      obtain ⟨mk1, rfl, F⟩ := F
      generalize hrec1 : ref01_Best_L1 r1 mk1 = rec1 at F
      unfold ref01_Best_B1 at F
      refine CW.seq fun K10 hK10 => ?_
      refine CW.seq fun K11 hK11 => ?_
      refine CW.region ?_
      refine LW.pure rfl rfl (RV.move rfl) ?_
      refine LW.pure rfl rfl (RV.move rfl) ?_
      refine LW.pure rfl rfl (RV.len Ts39 rfl) ?_
      refine LW.pure rfl rfl (RV.lss rfl rfl) ?_
      refine LW.nil (hK11 _ _ ?_)
      by_cases hp2 : t8_1 < ((r1.1.length : Int))
      ·
        replace F := ite_y hp2 F
        have hq2 := dec_t hp2
        refine CW.condT rfl hq2 ?_
        refine CW.skip (hK10 _ _ ?_)
        refine CW.seq fun K12 hK12 => ?_
        refine CW.block ?_
        obtain ⟨x1, hbx1, hx1, F⟩ := ix_some F
        obtain ⟨r2, hr2, F⟩ := bnd_some F
        obtain ⟨hg1, F⟩ := gd_some F
        refine CW.region ?_
        refine LW.pure rfl rfl (RV.move rfl) ?_
        refine LW.pure rfl rfl (RV.move rfl) ?_
        refine LW.pure rfl rfl (RV.move rfl) ?_
        refine LW.pure rfl rfl (RV.indexAddr Ts39 rfl rfl hbx1 ((H.own 0 rfl).sl.addr_ hx1)) ?_
        refine LW.pure rfl rfl (RV.load1 Tk3 rfl ((H.own 0 rfl).sl.at_ hx1) rfl) ?_
        refine LW.pure rfl rfl (RV.move rfl) ?_
        refine LW.go rfl rfl (OW.call Tc33 rfl (ref01_Ratio_ok (a0 := x1) (a1 := r1.2) hr2) ?_)
        rintro _ w4 ⟨rfl, E3⟩
        refine ⟨_, rfl, ?_⟩
        replace H := H.grow E3
        replace R0 := H.ext
        refine LW.go rfl rfl (OW.buildSlice (e := 28) (vs := [.agg #[.int .i64 r2.num, .int .i64 r2.den]]) (cs := [.int .i64 r2.num, .int .i64 r2.den]) rfl (fun _ => by kernel_rfl) fun b2 w5 N2 => ?_)
        replace H := H.made' (k := 2) (t := 28) (enc := encRat) (l := ([r2] : List Rat)) N2 N2.blk (fun _ => rfl) rfl (by first | decide | omega | (simp; done) | (simp; omega))
        replace R0 := H.ext
        refine LW.go rfl rfl (OW.appendG (enc := encRat) (l := l2) (xs := ([r2] : List Rat)) Ts53 rfl (look_slice rfl (by first | rfl | (simp; done) | (simp; omega))) (H.own 2 rfl) (H.own 0 rfl).sl (fun _ => rfl) rfl rfl hg1 (by decide) fun A2 c2 w6 O1 M1 D1 => ?_)
        replace H : Hp w w6 [.own (some ⟨b2, 0, none⟩) ((([r2] : List Rat)).length) 28 2 (List.map encRat (([r2] : List Rat))), .own A12_0 c12_0 3 1 (List.map encN r1.1), .own A2 c2 28 2 (List.map encRat ((l2 ++ ([r2] : List Rat))))] := H.mod 2 rfl M1 O1 D1
        replace R0 := H.ext
        refine LW.pure rfl rfl (RV.assign rfl) ?_
        refine LW.nil (hK12 _ _ ?_)
        obtain ⟨hg2, F⟩ := gd_some F
        refine CW.region ?_
        refine LW.pure rfl rfl (RV.move rfl) ?_
        refine LW.pure rfl rfl (RV.add rfl rfl hg2) ?_
        refine LW.pure rfl rfl (RV.assign rfl) ?_
        refine LW.nil ?_
        replace H := H.pick (L' := [.own A12_0 c12_0 3 1 (List.map encN r1.1), .own A2 c2 28 2 (List.map encRat ((l2 ++ ([r2] : List Rat))))]) [1, 2] (by decide) rfl
        replace R0 := H.ext
        subst hrec1
        refine ⟨mk1, Nat.lt_succ_self _, _, ?_, (t8_1 + 1), ((l2 ++ ([r2] : List Rat))), A2, c2, F, rfl, H⟩
        exact ⟨rfl, rfl, (look_slice rfl (by first | rfl | (simp; done) | omega | (simp; omega))), rfl, (look_slice rfl (by first | rfl | (simp; done) | omega | (simp; omega))), rfl, trivial⟩
      ·
        replace F := ite_n hp2 F
        have hq2 := dec_f hp2
        refine CW.condF rfl hq2 ?_
        replace H := H.pick (L' := [.own Al2 cl2 28 2 (List.map encRat l2)]) [1] (by decide) rfl
        replace R0 := H.ext
        refine CW.exit (jK47 _ _ ⟨_, ?_, ⟨l2, Al2, cl2, F, rfl, H⟩⟩)
        exact ⟨rfl, rfl, (look_slice rfl (by first | rfl | (simp; done) | omega | (simp; omega))), trivial⟩
  ·
    replace F := ite_n hp1 F
    have hq1 := dec_f hp1
    refine CW.condT rfl (not_t hq1) ?_
    refine CW.seq fun K13 hK13 => ?_
    refine CW.region ?_
    refine LW.pure rfl rfl (RV.move rfl) ?_
    refine LW.pure rfl rfl (RV.assign rfl) ?_
    refine LW.pure rfl rfl (RV.assign rfl) ?_
    refine LW.nil (hK13 _ _ ?_)
    refine CW.ret ?_
    obtain rfl := Option.some.inj F
    refine ⟨_, (ResOK.two rfl rfl), ?_⟩
    replace H := H.nilOwn 28 2
    replace R0 := H.ext
    replace H := H.pick (L' := [.own none 0 28 2 (List.map encRat (([] : List Rat)))]) [0] (by decide) rfl
    replace R0 := H.ext
    exact ⟨none, 0, (by first | rfl | (simp; done) | (simp; omega)), H⟩
set_option maxRecDepth 20000 in
set_option maxHeartbeats 1000000 in
theorem level_residuals_ok {a0 : Survey} {A_a0_readings : Option Addr} {c_a0_readings : Nat} {w : World} {res : (List Rat)} (h_a0_readings : Sl w A_a0_readings c_a0_readings 4 (a0.readings.map encReading)) (F : level_residuals a0 = some res) : Calls Try.prog 76 #[.agg #[.int .i64 a0.points, .slice A_a0_readings a0.readings.length c_a0_readings]] w (fun e w' => ∃ (A1 : Option Addr) (c1 : Nat), e = .returned (.slice A1 res.length c1) ∧ Hp w w' [.own A1 c1 28 2 (List.map encRat res)]) := by
  refine calls_of_cw (args := [.agg #[.int .i64 a0.points, .slice A_a0_readings a0.readings.length c_a0_readings]]) Try.func76 rfl rfl rfl rfl ?_
  have H := Hp.start w
  have R0 := H.ext
  unfold level_residuals at F
  refine CW.seq fun K1 hK1 => ?_
  refine CW.region ?_
  refine LW.go rfl rfl (OW.box rfl fun b1 w1 N1 => ?_)
  replace H := H.new N1 N1.blk
  replace R0 := H.ext
  refine LW.pure rfl rfl (RV.assign rfl) ?_
  refine LW.nil (hK1 _ _ ?_)
  refine CW.seq fun K2 hK2 => ?_
  obtain ⟨r1, hr1, F⟩ := bnd_some F
  refine CW.region ?_
  refine LW.pure rfl rfl (RV.loadA [.int .i64 a0.points, .slice A_a0_readings a0.readings.length c_a0_readings] Tk24 rfl (H.blk 0 rfl).cells rfl rfl) ?_
  refine LW.go rfl rfl (OW.call Tc74 rfl (level_best_ok (a0 := a0) (h_a0_readings.ext R0) hr1) ?_)
  rintro _ w2 ⟨A15_0, c15_0, rfl, E1⟩
  refine ⟨_, rfl, ?_⟩
  replace H : Hp w w2 [.own A15_0 c15_0 28 2 (List.map encRat r1), .blk b1 24 [.int .i64 a0.points, .slice A_a0_readings a0.readings.length c_a0_readings]] := H.append E1
  replace R0 := H.ext
  refine LW.pure rfl rfl (RV.assign rfl) ?_
  refine LW.nil (hK2 _ _ ?_)
  refine CW.seq fun K3 hK3 => ?_
  refine CW.region ?_
  refine LW.pure rfl rfl (RV.assign rfl) ?_
  refine LW.nil (hK3 _ _ ?_)
  refine CW.seqJ (fun ρ wl1 => (∃ (l1 : List Rat) (Al1 : Option Addr) (cl1 : Nat), level_residuals_k1 l1 = some res ∧ ρ = [(2, .slice none 0 0), (4, .slice Al1 l1.length cl1)] ∧ Hp w wl1 [.own Al1 cl1 28 2 (List.map encRat l1)])) ?_ ?_
  ·
    rintro _ wl1 ⟨l1, Al1, cl1, F, rfl, H⟩
    have R0 := H.ext
    unfold level_residuals_k1 at F
    refine CW.seq fun K4 hK4 => ?_
    refine CW.region ?_
    refine LW.pure rfl rfl (RV.move rfl) ?_
    refine LW.pure rfl rfl (RV.assign rfl) ?_
    refine LW.nil (hK4 _ _ ?_)
    refine CW.ret ?_
    obtain rfl := Option.some.inj F
    refine ⟨_, (ResOK.one rfl), ?_⟩
    exact ⟨Al1, cl1, (by first | rfl | (simp; done) | (simp; omega)), H⟩
  ·
    intro K5 hK5 jK49
    refine CW.seq fun K6 hK6 => ?_
    refine CW.region ?_
    refine LW.pure rfl rfl (RV.fieldAddr Tf24_1 rfl) ?_
    refine LW.pure rfl rfl (RV.load1 Tk22 rfl ((H.blk 1 rfl).cells.off 1) rfl) ?_
    refine LW.pure rfl rfl (RV.len Ts22 rfl) ?_
    refine LW.pure rfl rfl (RV.move rfl) ?_
    refine LW.nil (hK6 _ _ ?_)
    refine CW.block ?_
    replace H := H.nilOwn 28 2
    replace R0 := H.ext
    replace H := H.pick (L' := [.own A15_0 c15_0 28 2 (List.map encRat r1), .own none 0 28 2 (List.map encRat (([] : List Rat)))]) [1, 0] (by decide) rfl
    replace R0 := H.ext
    refine CW.loop (fun meas ρ wl2 => ∃ (t12_1 : Int) (l2 : List Rat) (Al2 : Option Addr) (cl2 : Nat), level_residuals_L1 a0 r1 meas t12_1 l2 = some res ∧ ρ = [(2, .slice none 0 0), (3, .slice A15_0 r1.length c15_0), (4, .slice Al2 l2.length cl2), (10, .slice A_a0_readings a0.readings.length c_a0_readings), (11, .int .i64 ((a0.readings.length : Int))), (12, .int .i64 t12_1)] ∧ Hp w wl2 [.own A15_0 c15_0 28 2 (List.map encRat r1), .own Al2 cl2 28 2 (List.map encRat l2)]) FU ⟨_, ?_, ((0 : Int)), (([] : List Rat)), none, 0, F, rfl, H⟩ ?_
    · exact ⟨rfl, (look_slice rfl (by first | rfl | (simp; done) | omega | (simp; omega))), (look_slice rfl (by first | rfl | (simp; done) | omega | (simp; omega))), rfl, rfl, rfl, trivial⟩
    rintro mk1 _ wl2 ⟨t12_1, l2, Al2, cl2, F, rfl, H⟩
    have R0 := H.ext
    replace F := level_residuals_L1_s F
    obtain ⟨mk1, rfl, F⟩ := F
    generalize hrec1 : level_residuals_L1 a0 r1 mk1 = rec1 at F
    unfold level_residuals_B1 at F
    refine CW.seq fun K7 hK7 => ?_
    refine CW.region ?_
    refine LW.pure rfl rfl (RV.lss rfl rfl) ?_
    refine LW.nil (hK7 _ _ ?_)
    refine CW.seq fun K8 hK8 => ?_
    by_cases hp1 : t12_1 < ((a0.readings.length : Int))
    ·
      replace F := ite_y hp1 F
      have hq1 := dec_t hp1
      refine CW.condT rfl hq1 ?_
      refine CW.skip (hK8 _ _ ?_)
      refine CW.seq fun K9 hK9 => ?_
      refine CW.block ?_
      refine CW.seq fun K10 hK10 => ?_
      obtain ⟨x1, hbx1, hx1, F⟩ := ix_some F
      refine CW.region ?_
      refine LW.pure rfl rfl (RV.indexAddr Ts22 rfl rfl hbx1 (h_a0_readings.addr_ hx1)) ?_
      refine LW.pure rfl rfl (RV.loadA [.int .i64 x1.from_, .int .i64 x1.to_, .int .i64 x1.rise, .int .i64 x1.weight] Tk46 rfl ((h_a0_readings.at_ hx1).ext R0) rfl rfl) ?_
      refine LW.go rfl rfl (OW.alloc Tz46 fun b2 w3 N2 => ?_)
      replace H := H.new N2 N2.blk
      replace R0 := H.ext
      refine LW.go rfl rfl (OW.store Tk46 rfl rfl (H.blk 0 rfl) (off := 0) (vs := [.int .i64 x1.from_, .int .i64 x1.to_, .int .i64 x1.rise, .int .i64 x1.weight]) rfl rfl rfl rfl rfl fun w4 S1 => ?_)
      replace H : Hp w w4 [.blk b2 46 [.int .i64 x1.from_, .int .i64 x1.to_, .int .i64 x1.rise, .int .i64 x1.weight], .own A15_0 c15_0 28 2 (List.map encRat r1), .own Al2 cl2 28 2 (List.map encRat l2)] := H.stored 0 rfl S1
      replace R0 := H.ext
      refine LW.nil (hK10 _ _ ?_)
      obtain ⟨x2, hbx2, hx2, F⟩ := ix_some F
      obtain ⟨x3, hbx3, hx3, F⟩ := ix_some F
      obtain ⟨r2, hr2, F⟩ := bnd_some F
      obtain ⟨r3, hr3, F⟩ := bnd_some F
      obtain ⟨hg1, F⟩ := gd_some F
      have H0 := H
      have hz : w4.heap.size ≤ w4.heap.size := Nat.le_refl _
      refine CW.draw [17] (XB w4 [.blk b2 46 [.int .i64 x1.from_, .int .i64 x1.to_, .int .i64 x1.rise, .int .i64 x1.weight], .own A15_0 c15_0 28 2 (List.map encRat r1), .own Al2 cl2 28 2 (List.map encRat l2)] [2]) (.cons 0 1 (.cons 1 2 (.cons 2 2 (.cons 3 2 (.cons 4 2 (.cons 5 2 (.cons 6 2 (.cons 7 2 (.cons 8 2 (.cons 9 2 (.cons 10 2 (.cons 11 2 (.cons 12 2 (.cons 13 2 (.cons 14 0 (.cons 15 0 (.cons 16 0 (.cons 17 0 (.cons 18 2 .nil))))))))))))))))))) mixed (by kernel_rfl) fun w5 E2 => ?_
      replace H := H.grow E2
      replace R0 := H.ext
      replace hz := Nat.le_trans hz (Ext.size E2)
      refine DW.fix rfl rfl rfl (fun _ EQ => RV.move rfl) ?_
      refine DW.thru rfl rfl rfl (fun _ EQ => RV.fieldAddr Tf46_2 rfl) ?_
      refine DW.thru rfl rfl rfl (fun _ EQ => RV.load1 Tk3 rfl ((H.thruB 0 rfl EQ (H0.notX [2] 0 rfl (by decide))).cells.off 2) rfl) ?_
      refine DW.thru rfl rfl rfl (fun _ EQ => RV.build (vs := [.int .i64 x1.rise, .int .i64 1]) (cs := [.int .i64 x1.rise, .int .i64 1]) rfl (fun _ => by kernel_rfl)) ?_
      refine DW.thru rfl rfl rfl (fun _ EQ => RV.move rfl) ?_
      refine DW.thru rfl rfl rfl (fun _ EQ => RV.fieldAddr Tf46_1 rfl) ?_
      refine DW.thru rfl rfl rfl (fun _ EQ => RV.load1 Tk3 rfl ((H.thruB 0 rfl EQ (H0.notX [2] 0 rfl (by decide))).cells.off 1) rfl) ?_
      refine DW.thru rfl rfl rfl (fun _ EQ => RV.indexAddr Ts53 rfl rfl hbx2 ((H.own 1 rfl).sl.addr_ hx2)) ?_
      refine DW.thru rfl rfl rfl (fun _ EQ => RV.loadA [.int .i64 x2.num, .int .i64 x2.den] Tk28 rfl ((H.thruO 1 rfl EQ (H0.notX [2] 1 rfl (by decide))).sl.at_ hx2) rfl rfl) ?_
      refine DW.thru rfl rfl rfl (fun _ EQ => RV.move rfl) ?_
      refine DW.thru rfl rfl rfl (fun _ EQ => RV.fieldAddr Tf46_0 rfl) ?_
      refine DW.thru rfl rfl rfl (fun _ EQ => RV.load1 Tk3 rfl ((H.thruB 0 rfl EQ (H0.notX [2] 0 rfl (by decide))).cells.off 0) rfl) ?_
      refine DW.thru rfl rfl rfl (fun _ EQ => RV.indexAddr Ts53 rfl rfl hbx3 ((H.own 1 rfl).sl.addr_ hx3)) ?_
      refine DW.thru rfl rfl rfl (fun _ EQ => RV.loadA [.int .i64 x3.num, .int .i64 x3.den] Tk28 rfl ((H.thruO 1 rfl EQ (H0.notX [2] 1 rfl (by decide))).sl.at_ hx3) rfl rfl) ?_
      refine DW.sole rfl rfl rfl (OW.call Tc105 rfl (level_sub_ok (a0 := x2) (a1 := x3) hr2) ?_)
      rintro _ w6 ⟨rfl, E3⟩
      refine ⟨_, rfl, fun _ => E3, ModX.ext E3, ?_⟩
      replace H := H.grow E3
      replace R0 := H.ext
      replace hz := Nat.le_trans hz (Ext.size E3)
      refine DW.sole rfl rfl rfl (OW.call Tc105 rfl (level_sub_ok (a0 := (⟨x1.rise, 1⟩ : Rat)) (a1 := r2) hr3) ?_)
      rintro _ w7 ⟨rfl, E4⟩
      refine ⟨_, rfl, fun _ => E4, ModX.ext E4, ?_⟩
      replace H := H.grow E4
      replace R0 := H.ext
      replace hz := Nat.le_trans hz (Ext.size E4)
      refine DW.sole rfl rfl rfl (OW.buildSlice (e := 28) (vs := [.agg #[.int .i64 r3.num, .int .i64 r3.den]]) (cs := [.int .i64 r3.num, .int .i64 r3.den]) rfl (fun _ => by kernel_rfl) fun b3 w8 N3 => ?_)
      refine ⟨fun _ => N3.ext, ModX.ext N3.ext, ?_⟩
      have G0_b3 : w4.heap.size ≤ b3 := by rw [N3.at_]; exact hz
      replace H := H.made' (k := 2) (t := 28) (enc := encRat) (l := ([r3] : List Rat)) N3 N3.blk (fun _ => rfl) rfl (by first | decide | omega | (simp; done) | (simp; omega))
      replace R0 := H.ext
      replace hz := Nat.le_trans hz (Ext.size N3.ext)
      refine DW.sole rfl rfl rfl (OW.appendG (enc := encRat) (l := l2) (xs := ([r3] : List Rat)) Ts53 rfl (look_slice rfl (by first | rfl | (simp; done) | (simp; omega))) (H.own 3 rfl) (H.own 0 rfl).sl (fun _ => rfl) rfl rfl hg1 (by decide) fun A2 c2 w9 O1 M1 D1 => ?_)
      refine ⟨fun h => absurd h (by decide), M1.modx (XB.own_ 2 (by decide) rfl), ?_⟩
      replace H : Hp w w9 [.own (some ⟨b3, 0, none⟩) ((([r3] : List Rat)).length) 28 2 (List.map encRat (([r3] : List Rat))), .blk b2 46 [.int .i64 x1.from_, .int .i64 x1.to_, .int .i64 x1.rise, .int .i64 x1.weight], .own A15_0 c15_0 28 2 (List.map encRat r1), .own A2 c2 28 2 (List.map encRat ((l2 ++ ([r3] : List Rat))))] := H.mod 3 rfl M1 O1 D1
      replace R0 := H.ext
      replace hz := Nat.le_trans hz M1.size
      refine DW.thru rfl rfl rfl (fun _ EQ => RV.assign rfl) ?_
      refine DW.nil (hK9 _ _ ?_)
      obtain ⟨hg2, F⟩ := gd_some F
      refine CW.region ?_
      refine LW.pure rfl rfl (RV.add rfl rfl hg2) ?_
      refine LW.pure rfl rfl (RV.move rfl) ?_
      refine LW.nil ?_
      replace H := H.pick (L' := [.own A15_0 c15_0 28 2 (List.map encRat r1), .own A2 c2 28 2 (List.map encRat ((l2 ++ ([r3] : List Rat))))]) [2, 3] (by decide) rfl
      replace R0 := H.ext
      subst hrec1
      refine ⟨mk1, Nat.lt_succ_self _, _, ?_, (t12_1 + 1), ((l2 ++ ([r3] : List Rat))), A2, c2, F, rfl, H⟩
      exact ⟨rfl, (look_slice rfl (by first | rfl | (simp; done) | omega | (simp; omega))), (look_slice rfl (by first | rfl | (simp; done) | omega | (simp; omega))), rfl, rfl, rfl, trivial⟩
    ·
      replace F := ite_n hp1 F
      have hq1 := dec_f hp1
      refine CW.condF rfl hq1 ?_
      replace H := H.pick (L' := [.own Al2 cl2 28 2 (List.map encRat l2)]) [1] (by decide) rfl
      replace R0 := H.ext
      refine CW.exit (jK49 _ _ ⟨_, ?_, ⟨l2, Al2, cl2, F, rfl, H⟩⟩)
      exact ⟨rfl, (look_slice rfl (by first | rfl | (simp; done) | omega | (simp; omega))), trivial⟩
set_option maxRecDepth 20000 in
set_option maxHeartbeats 1000000 in
theorem level_Residuals_ok {a0 : Survey} {A_a0_readings : Option Addr} {c_a0_readings : Nat} {w : World} {res : (List Rat) × Int} (h_a0_readings : Sl w A_a0_readings c_a0_readings 4 (a0.readings.map encReading)) (F : level_Residuals a0 = some res) : Calls Try.prog 36 #[.agg #[.int .i64 a0.points, .slice A_a0_readings a0.readings.length c_a0_readings]] w (fun e w' => ∃ (A0 : Option Addr) (c0 : Nat), e = .returned (.tuple #[.slice A0 res.1.length c0, .int .i64 res.2]) ∧ Hp w w' [.own A0 c0 28 2 (List.map encRat res.1)]) := by
  refine calls_of_cw (args := [.agg #[.int .i64 a0.points, .slice A_a0_readings a0.readings.length c_a0_readings]]) Try.func36 rfl rfl rfl rfl ?_
  have H := Hp.start w
  have R0 := H.ext
  unfold level_Residuals at F
  refine CW.seq fun K1 hK1 => ?_
  refine CW.region ?_
  refine LW.go rfl rfl (OW.box rfl fun b1 w1 N1 => ?_)
  replace H := H.new N1 N1.blk
  replace R0 := H.ext
  refine LW.pure rfl rfl (RV.assign rfl) ?_
  refine LW.pure rfl rfl (RV.assign rfl) ?_
  refine LW.nil (hK1 _ _ ?_)
  refine CW.seq fun K2 hK2 => ?_
  refine CW.seq fun K3 hK3 => ?_
  obtain ⟨r1, hr1, F⟩ := bnd_some F
  refine CW.region ?_
  refine LW.pure rfl rfl (RV.loadA [.int .i64 a0.points, .slice A_a0_readings a0.readings.length c_a0_readings] Tk24 rfl (H.blk 0 rfl).cells rfl rfl) ?_
  refine LW.go rfl rfl (OW.call Tc25 rfl (level_Validate_ok (a0 := a0) (h_a0_readings.ext R0) hr1) ?_)
  rintro _ w2 ⟨rfl, E1⟩
  refine ⟨_, rfl, ?_⟩
  replace H := H.grow E1
  replace R0 := H.ext
  refine LW.pure rfl rfl (RV.assign rfl) ?_
  refine LW.nil (hK3 _ _ ?_)
  refine CW.seq fun K4 hK4 => ?_
  refine CW.region ?_
  refine LW.pure rfl rfl (RV.move rfl) ?_
  refine LW.pure rfl rfl (RV.nei rfl rfl) ?_
  refine LW.nil (hK4 _ _ ?_)
  by_cases hp1 : r1 = 0
  ·
    replace F := ite_y hp1 F
    have hq1 := dec_t hp1
    refine CW.condF rfl (not_f hq1) ?_
    refine CW.skip (hK2 _ _ ?_)
    refine CW.seq fun K5 hK5 => ?_
    obtain ⟨r2, hr2, F⟩ := bnd_some F
    refine CW.region ?_
    refine LW.pure rfl rfl (RV.loadA [.int .i64 a0.points, .slice A_a0_readings a0.readings.length c_a0_readings] Tk24 rfl (H.blk 0 rfl).cells rfl rfl) ?_
    refine LW.go rfl rfl (OW.call Tc76 rfl (level_residuals_ok (a0 := a0) (h_a0_readings.ext R0) hr2) ?_)
    rintro _ w3 ⟨A6_0, c6_0, rfl, E2⟩
    refine ⟨_, rfl, ?_⟩
    replace H : Hp w w3 [.own A6_0 c6_0 28 2 (List.map encRat r2), .blk b1 24 [.int .i64 a0.points, .slice A_a0_readings a0.readings.length c_a0_readings]] := H.append E2
    replace R0 := H.ext
    refine LW.pure rfl rfl (RV.assign rfl) ?_
    refine LW.pure rfl rfl (RV.assign rfl) ?_
    refine LW.nil (hK5 _ _ ?_)
    refine CW.ret ?_
    obtain rfl := Option.some.inj F
    refine ⟨_, (ResOK.two rfl rfl), ?_⟩
    replace H := H.pick (L' := [.own A6_0 c6_0 28 2 (List.map encRat r2)]) [0] (by decide) rfl
    replace R0 := H.ext
    exact ⟨A6_0, c6_0, (by first | rfl | (simp; done) | (simp; omega)), H⟩
  ·
    replace F := ite_n hp1 F
    have hq1 := dec_f hp1
    refine CW.condT rfl (not_t hq1) ?_
    refine CW.seq fun K6 hK6 => ?_
    refine CW.region ?_
    refine LW.pure rfl rfl (RV.move rfl) ?_
    refine LW.pure rfl rfl (RV.assign rfl) ?_
    refine LW.pure rfl rfl (RV.assign rfl) ?_
    refine LW.nil (hK6 _ _ ?_)
    refine CW.ret ?_
    obtain rfl := Option.some.inj F
    refine ⟨_, (ResOK.two rfl rfl), ?_⟩
    replace H := H.nilOwn 28 2
    replace R0 := H.ext
    replace H := H.pick (L' := [.own none 0 28 2 (List.map encRat (([] : List Rat)))]) [0] (by decide) rfl
    replace R0 := H.ext
    exact ⟨none, 0, (by first | rfl | (simp; done) | (simp; omega)), H⟩
set_option maxRecDepth 20000 in
set_option maxHeartbeats 1000000 in
theorem ref01_residuals_ok {a0 : Survey} {A_a0_readings : Option Addr} {c_a0_readings : Nat} {w : World} {res : (List Int) × Int} (h_a0_readings : Sl w A_a0_readings c_a0_readings 4 (a0.readings.map encReading)) (F : ref01_residuals a0 = some res) : Calls Try.prog 77 #[.agg #[.int .i64 a0.points, .slice A_a0_readings a0.readings.length c_a0_readings]] w (fun e w' => ∃ (A1 : Option Addr) (c1 : Nat), e = .returned (.tuple #[.slice A1 res.1.length c1, .int .i64 res.2]) ∧ Hp w w' [.own A1 c1 3 1 (List.map encN res.1)]) := by
  refine calls_of_cw (args := [.agg #[.int .i64 a0.points, .slice A_a0_readings a0.readings.length c_a0_readings]]) Try.func77 rfl rfl rfl rfl ?_
  have H := Hp.start w
  have R0 := H.ext
  unfold ref01_residuals at F
  refine CW.seq fun K1 hK1 => ?_
  refine CW.region ?_
  refine LW.go rfl rfl (OW.box rfl fun b1 w1 N1 => ?_)
  replace H := H.new N1 N1.blk
  replace R0 := H.ext
  refine LW.pure rfl rfl (RV.assign rfl) ?_
  refine LW.pure rfl rfl (RV.assign rfl) ?_
  refine LW.nil (hK1 _ _ ?_)
  refine CW.seq fun K2 hK2 => ?_
  obtain ⟨r1, hr1, F⟩ := bnd_some F
  refine CW.region ?_
  refine LW.pure rfl rfl (RV.loadA [.int .i64 a0.points, .slice A_a0_readings a0.readings.length c_a0_readings] Tk24 rfl (H.blk 0 rfl).cells rfl rfl) ?_
  refine LW.go rfl rfl (OW.call Tc75 rfl (ref01_best_ok (a0 := a0) (h_a0_readings.ext R0) hr1) ?_)
  rintro _ w2 ⟨A3_0, c3_0, rfl, E1⟩
  refine ⟨_, rfl, ?_⟩
  replace H : Hp w w2 [.own A3_0 c3_0 3 1 (List.map encN r1.1), .blk b1 24 [.int .i64 a0.points, .slice A_a0_readings a0.readings.length c_a0_readings]] := H.append E1
  replace R0 := H.ext
  refine LW.pure rfl rfl (RV.move rfl) ?_
  refine LW.pure rfl rfl (RV.extract rfl rfl) ?_
  refine LW.pure rfl rfl (RV.extract rfl rfl) ?_
  refine LW.pure rfl rfl (RV.assign rfl) ?_
  refine LW.pure rfl rfl (RV.assign rfl) ?_
  refine LW.nil (hK2 _ _ ?_)
  refine CW.seq fun K3 hK3 => ?_
  refine CW.region ?_
  refine LW.pure rfl rfl (RV.assign rfl) ?_
  refine LW.nil (hK3 _ _ ?_)
  refine CW.seqJ (fun ρ wl1 => (∃ (l1 : List Int) (Al1 : Option Addr) (cl1 : Nat), ref01_residuals_k1 r1 l1 = some res ∧ ρ = [(2, .slice none 0 0), (3, .int .i64 0), (5, .int .i64 r1.2), (6, .slice Al1 l1.length cl1)] ∧ Hp w wl1 [.own Al1 cl1 3 1 (List.map encN l1)])) ?_ ?_
  ·
    rintro _ wl1 ⟨l1, Al1, cl1, F, rfl, H⟩
    have R0 := H.ext
    unfold ref01_residuals_k1 at F
    refine CW.seq fun K4 hK4 => ?_
    refine CW.region ?_
    refine LW.pure rfl rfl (RV.move rfl) ?_
    refine LW.pure rfl rfl (RV.move rfl) ?_
    refine LW.pure rfl rfl (RV.assign rfl) ?_
    refine LW.pure rfl rfl (RV.assign rfl) ?_
    refine LW.nil (hK4 _ _ ?_)
    refine CW.ret ?_
    obtain rfl := Option.some.inj F
    refine ⟨_, (ResOK.two rfl rfl), ?_⟩
    exact ⟨Al1, cl1, (by first | rfl | (simp; done) | (simp; omega)), H⟩
  ·
    intro K5 hK5 jK49
    refine CW.seq fun K6 hK6 => ?_
    refine CW.region ?_
    refine LW.pure rfl rfl (RV.assign rfl) ?_
    refine LW.nil (hK6 _ _ ?_)
    refine CW.block ?_
    replace H := H.nilOwn 3 1
    replace R0 := H.ext
    replace H := H.pick (L' := [.own A3_0 c3_0 3 1 (List.map encN r1.1), .own none 0 3 1 (List.map encN (([] : List Int))), .blk b1 24 [.int .i64 a0.points, .slice A_a0_readings a0.readings.length c_a0_readings]]) [1, 0, 2] (by decide) rfl
    replace R0 := H.ext
    refine CW.loop (fun meas ρ wl2 => ∃ (t7_1 : Int) (l2 : List Int) (Al2 : Option Addr) (cl2 : Nat), ref01_residuals_L1 a0 r1 meas t7_1 l2 = some res ∧ ρ = [(1, .pointer (some (⟨b1, 0, none⟩))), (2, .slice none 0 0), (3, .int .i64 0), (4, .slice A3_0 r1.1.length c3_0), (5, .int .i64 r1.2), (6, .slice Al2 l2.length cl2), (7, .int .i64 t7_1)] ∧ Hp w wl2 [.own A3_0 c3_0 3 1 (List.map encN r1.1), .own Al2 cl2 3 1 (List.map encN l2), .blk b1 24 [.int .i64 a0.points, .slice A_a0_readings a0.readings.length c_a0_readings]]) FU ⟨_, ?_, ((0 : Int)), (([] : List Int)), none, 0, F, rfl, H⟩ ?_
    · exact ⟨rfl, rfl, rfl, (look_slice rfl (by first | rfl | (simp; done) | omega | (simp; omega))), rfl, (look_slice rfl (by first | rfl | (simp; done) | omega | (simp; omega))), rfl, trivial⟩
    rintro mk1 _ wl2 ⟨t7_1, l2, Al2, cl2, F, rfl, H⟩
    have R0 := H.ext
    replace F := ref01_residuals_L1_s F
    obtain ⟨mk1, rfl, F⟩ := F
    generalize hrec1 : ref01_residuals_L1 a0 r1 mk1 = rec1 at F
    unfold ref01_residuals_B1 at F
    refine CW.seq fun K7 hK7 => ?_
    refine CW.seq fun K8 hK8 => ?_
    refine CW.region ?_
    refine LW.pure rfl rfl (RV.move rfl) ?_
    refine LW.pure rfl rfl (RV.fieldAddr Tf24_1 rfl) ?_
    refine LW.pure rfl rfl (RV.load1 Tk22 rfl ((H.blk 2 rfl).cells.off 1) rfl) ?_
    refine LW.pure rfl rfl (RV.len Ts22 rfl) ?_
    refine LW.pure rfl rfl (RV.lss rfl rfl) ?_
    refine LW.nil (hK8 _ _ ?_)
    by_cases hp1 : t7_1 < ((a0.readings.length : Int))
    ·
      replace F := ite_y hp1 F
      have hq1 := dec_t hp1
      refine CW.condT rfl hq1 ?_
      refine CW.skip (hK7 _ _ ?_)
      refine CW.seq fun K9 hK9 => ?_
      refine CW.block ?_
      refine CW.seq fun K10 hK10 => ?_
      obtain ⟨x1, hbx1, hx1, F⟩ := ix_some F
      refine CW.region ?_
      refine LW.pure rfl rfl (RV.fieldAddr Tf24_1 rfl) ?_
      refine LW.pure rfl rfl (RV.load1 Tk22 rfl ((H.blk 2 rfl).cells.off 1) rfl) ?_
      refine LW.pure rfl rfl (RV.move rfl) ?_
      refine LW.pure rfl rfl (RV.indexAddr Ts22 rfl rfl hbx1 (h_a0_readings.addr_ hx1)) ?_
      refine LW.pure rfl rfl (RV.loadA [.int .i64 x1.from_, .int .i64 x1.to_, .int .i64 x1.rise, .int .i64 x1.weight] Tk46 rfl ((h_a0_readings.at_ hx1).ext R0) rfl rfl) ?_
      refine LW.go rfl rfl (OW.alloc Tz46 fun b2 w3 N2 => ?_)
      replace H := H.new N2 N2.blk
      replace R0 := H.ext
      refine LW.go rfl rfl (OW.store Tk46 rfl rfl (H.blk 0 rfl) (off := 0) (vs := [.int .i64 x1.from_, .int .i64 x1.to_, .int .i64 x1.rise, .int .i64 x1.weight]) rfl rfl rfl rfl rfl fun w4 S1 => ?_)
      replace H : Hp w w4 [.blk b2 46 [.int .i64 x1.from_, .int .i64 x1.to_, .int .i64 x1.rise, .int .i64 x1.weight], .own A3_0 c3_0 3 1 (List.map encN r1.1), .own Al2 cl2 3 1 (List.map encN l2), .blk b1 24 [.int .i64 a0.points, .slice A_a0_readings a0.readings.length c_a0_readings]] := H.stored 0 rfl S1
      replace R0 := H.ext
      refine LW.nil (hK10 _ _ ?_)
      obtain ⟨hg1, F⟩ := gd_some F
      obtain ⟨x2, hbx2, hx2, F⟩ := ix_some F
      obtain ⟨hg2, F⟩ := gd_some F
      obtain ⟨x3, hbx3, hx3, F⟩ := ix_some F
      obtain ⟨hg3, F⟩ := gd_some F
      obtain ⟨hg4, F⟩ := gd_some F
      have H0 := H
      have hz : w4.heap.size ≤ w4.heap.size := Nat.le_refl _
      refine CW.draw [18] (XB w4 [.blk b2 46 [.int .i64 x1.from_, .int .i64 x1.to_, .int .i64 x1.rise, .int .i64 x1.weight], .own A3_0 c3_0 3 1 (List.map encN r1.1), .own Al2 cl2 3 1 (List.map encN l2), .blk b1 24 [.int .i64 a0.points, .slice A_a0_readings a0.readings.length c_a0_readings]] [2]) (.cons 0 1 (.cons 1 2 (.cons 2 2 (.cons 3 2 (.cons 4 2 (.cons 5 2 (.cons 6 2 (.cons 7 2 (.cons 8 2 (.cons 9 2 (.cons 10 2 (.cons 11 2 (.cons 12 2 (.cons 13 2 (.cons 14 2 (.cons 15 2 (.cons 16 2 (.cons 17 0 (.cons 18 0 (.cons 19 2 .nil)))))))))))))))))))) mixed (by kernel_rfl) fun w5 E2 => ?_
      replace H := H.grow E2
      replace R0 := H.ext
      replace hz := Nat.le_trans hz (Ext.size E2)
      refine DW.fix rfl rfl rfl (fun _ EQ => RV.move rfl) ?_
      refine DW.thru rfl rfl rfl (fun _ EQ => RV.fieldAddr Tf46_2 rfl) ?_
      refine DW.thru rfl rfl rfl (fun _ EQ => RV.load1 Tk3 rfl ((H.thruB 0 rfl EQ (H0.notX [2] 0 rfl (by decide))).cells.off 2) rfl) ?_
      refine DW.thru rfl rfl rfl (fun _ EQ => RV.move rfl) ?_
      refine DW.thru rfl rfl rfl (fun _ EQ => RV.mul rfl rfl hg1) ?_
      refine DW.thru rfl rfl rfl (fun _ EQ => RV.move rfl) ?_
      refine DW.thru rfl rfl rfl (fun _ EQ => RV.fieldAddr Tf46_1 rfl) ?_
      refine DW.thru rfl rfl rfl (fun _ EQ => RV.load1 Tk3 rfl ((H.thruB 0 rfl EQ (H0.notX [2] 0 rfl (by decide))).cells.off 1) rfl) ?_
      refine DW.thru rfl rfl rfl (fun _ EQ => RV.indexAddr Ts39 rfl rfl hbx2 ((H.own 1 rfl).sl.addr_ hx2)) ?_
      refine DW.thru rfl rfl rfl (fun _ EQ => RV.load1 Tk3 rfl ((H.thruO 1 rfl EQ (H0.notX [2] 1 rfl (by decide))).sl.at_ hx2) rfl) ?_
      refine DW.thru rfl rfl rfl (fun _ EQ => RV.sub rfl rfl hg2) ?_
      refine DW.thru rfl rfl rfl (fun _ EQ => RV.move rfl) ?_
      refine DW.thru rfl rfl rfl (fun _ EQ => RV.fieldAddr Tf46_0 rfl) ?_
      refine DW.thru rfl rfl rfl (fun _ EQ => RV.load1 Tk3 rfl ((H.thruB 0 rfl EQ (H0.notX [2] 0 rfl (by decide))).cells.off 0) rfl) ?_
      refine DW.thru rfl rfl rfl (fun _ EQ => RV.indexAddr Ts39 rfl rfl hbx3 ((H.own 1 rfl).sl.addr_ hx3)) ?_
      refine DW.thru rfl rfl rfl (fun _ EQ => RV.load1 Tk3 rfl ((H.thruO 1 rfl EQ (H0.notX [2] 1 rfl (by decide))).sl.at_ hx3) rfl) ?_
      refine DW.thru rfl rfl rfl (fun _ EQ => RV.add rfl rfl hg3) ?_
      refine DW.sole rfl rfl rfl (OW.buildSlice (e := 3) (vs := [.int .i64 (((x1.rise * r1.2) - x2) + x3)]) (cs := [.int .i64 (((x1.rise * r1.2) - x2) + x3)]) rfl (fun _ => by kernel_rfl) fun b3 w6 N3 => ?_)
      refine ⟨fun _ => N3.ext, ModX.ext N3.ext, ?_⟩
      have G0_b3 : w4.heap.size ≤ b3 := by rw [N3.at_]; exact hz
      replace H := H.made' (k := 1) (t := 3) (enc := encN) (l := ([((x1.rise * r1.2) - x2) + x3] : List Int)) N3 N3.blk (fun _ => rfl) rfl (by first | decide | omega | (simp; done) | (simp; omega))
      replace R0 := H.ext
      replace hz := Nat.le_trans hz (Ext.size N3.ext)
      refine DW.sole rfl rfl rfl (OW.appendG (enc := encN) (l := l2) (xs := ([((x1.rise * r1.2) - x2) + x3] : List Int)) Ts39 rfl (look_slice rfl (by first | rfl | (simp; done) | (simp; omega))) (H.own 3 rfl) (H.own 0 rfl).sl (fun _ => rfl) rfl rfl hg4 (by decide) fun A2 c2 w7 O1 M1 D1 => ?_)
      refine ⟨fun h => absurd h (by decide), M1.modx (XB.own_ 2 (by decide) rfl), ?_⟩
      replace H : Hp w w7 [.own (some ⟨b3, 0, none⟩) ((([((x1.rise * r1.2) - x2) + x3] : List Int)).length) 3 1 (List.map encN (([((x1.rise * r1.2) - x2) + x3] : List Int))), .blk b2 46 [.int .i64 x1.from_, .int .i64 x1.to_, .int .i64 x1.rise, .int .i64 x1.weight], .own A3_0 c3_0 3 1 (List.map encN r1.1), .own A2 c2 3 1 (List.map encN ((l2 ++ ([((x1.rise * r1.2) - x2) + x3] : List Int)))), .blk b1 24 [.int .i64 a0.points, .slice A_a0_readings a0.readings.length c_a0_readings]] := H.mod 3 rfl M1 O1 D1
      replace R0 := H.ext
      replace hz := Nat.le_trans hz M1.size
      refine DW.thru rfl rfl rfl (fun _ EQ => RV.assign rfl) ?_
      refine DW.nil (hK9 _ _ ?_)
      obtain ⟨hg5, F⟩ := gd_some F
      refine CW.region ?_
      refine LW.pure rfl rfl (RV.move rfl) ?_
      refine LW.pure rfl rfl (RV.add rfl rfl hg5) ?_
      refine LW.pure rfl rfl (RV.assign rfl) ?_
      refine LW.nil ?_
      replace H := H.pick (L' := [.own A3_0 c3_0 3 1 (List.map encN r1.1), .own A2 c2 3 1 (List.map encN ((l2 ++ ([((x1.rise * r1.2) - x2) + x3] : List Int)))), .blk b1 24 [.int .i64 a0.points, .slice A_a0_readings a0.readings.length c_a0_readings]]) [2, 3, 4] (by decide) rfl
      replace R0 := H.ext
      subst hrec1
      refine ⟨mk1, Nat.lt_succ_self _, _, ?_, (t7_1 + 1), ((l2 ++ ([((x1.rise * r1.2) - x2) + x3] : List Int))), A2, c2, F, rfl, H⟩
      exact ⟨rfl, rfl, rfl, (look_slice rfl (by first | rfl | (simp; done) | omega | (simp; omega))), rfl, (look_slice rfl (by first | rfl | (simp; done) | omega | (simp; omega))), rfl, trivial⟩
    ·
      replace F := ite_n hp1 F
      have hq1 := dec_f hp1
      refine CW.condF rfl hq1 ?_
      replace H := H.pick (L' := [.own Al2 cl2 3 1 (List.map encN l2)]) [1] (by decide) rfl
      replace R0 := H.ext
      refine CW.exit (jK49 _ _ ⟨_, ?_, ⟨l2, Al2, cl2, F, rfl, H⟩⟩)
      exact ⟨rfl, rfl, rfl, (look_slice rfl (by first | rfl | (simp; done) | omega | (simp; omega))), trivial⟩
set_option maxRecDepth 20000 in
set_option maxHeartbeats 1000000 in
theorem ref01_Residuals_ok {a0 : Survey} {A_a0_readings : Option Addr} {c_a0_readings : Nat} {w : World} {res : (List Rat) × Int} (h_a0_readings : Sl w A_a0_readings c_a0_readings 4 (a0.readings.map encReading)) (F : ref01_Residuals a0 = some res) : Calls Try.prog 37 #[.agg #[.int .i64 a0.points, .slice A_a0_readings a0.readings.length c_a0_readings]] w (fun e w' => ∃ (A1 : Option Addr) (c1 : Nat), e = .returned (.tuple #[.slice A1 res.1.length c1, .int .i64 res.2]) ∧ Hp w w' [.own A1 c1 28 2 (List.map encRat res.1)]) := by
  refine calls_of_cw (args := [.agg #[.int .i64 a0.points, .slice A_a0_readings a0.readings.length c_a0_readings]]) Try.func37 rfl rfl rfl rfl ?_
  have H := Hp.start w
  have R0 := H.ext
  unfold ref01_Residuals at F
  refine CW.seq fun K1 hK1 => ?_
  refine CW.region ?_
  refine LW.go rfl rfl (OW.box rfl fun b1 w1 N1 => ?_)
  replace H := H.new N1 N1.blk
  replace R0 := H.ext
  refine LW.pure rfl rfl (RV.assign rfl) ?_
  refine LW.pure rfl rfl (RV.assign rfl) ?_
  refine LW.nil (hK1 _ _ ?_)
  refine CW.seq fun K2 hK2 => ?_
  refine CW.seq fun K3 hK3 => ?_
  obtain ⟨r3, hr3, F⟩ := bnd_some F
  refine CW.region ?_
  refine LW.pure rfl rfl (RV.loadA [.int .i64 a0.points, .slice A_a0_readings a0.readings.length c_a0_readings] Tk24 rfl (H.blk 0 rfl).cells rfl rfl) ?_
  refine LW.go rfl rfl (OW.call Tc26 rfl (ref01_Validate_ok (a0 := a0) (h_a0_readings.ext R0) hr3) ?_)
  rintro _ w2 ⟨rfl, E1⟩
  refine ⟨_, rfl, ?_⟩
  replace H := H.grow E1
  replace R0 := H.ext
  refine LW.pure rfl rfl (RV.assign rfl) ?_
  refine LW.nil (hK3 _ _ ?_)
  refine CW.seq fun K4 hK4 => ?_
  refine CW.region ?_
  refine LW.pure rfl rfl (RV.move rfl) ?_
  refine LW.pure rfl rfl (RV.nei rfl rfl) ?_
  refine LW.nil (hK4 _ _ ?_)
  by_cases hp1 : r3 = 0
  ·
    replace F := ite_y hp1 F
    have hq1 := dec_t hp1
    refine CW.condF rfl (not_f hq1) ?_
    refine CW.skip (hK2 _ _ ?_)
    refine CW.seq fun K5 hK5 => ?_
    obtain ⟨r1, hr1, F⟩ := bnd_some F
    refine CW.region ?_
    refine LW.pure rfl rfl (RV.loadA [.int .i64 a0.points, .slice A_a0_readings a0.readings.length c_a0_readings] Tk24 rfl (H.blk 0 rfl).cells rfl rfl) ?_
    refine LW.go rfl rfl (OW.call Tc77 rfl (ref01_residuals_ok (a0 := a0) (h_a0_readings.ext R0) hr1) ?_)
    rintro _ w3 ⟨A12_0, c12_0, rfl, E2⟩
    refine ⟨_, rfl, ?_⟩
    replace H : Hp w w3 [.own A12_0 c12_0 3 1 (List.map encN r1.1), .blk b1 24 [.int .i64 a0.points, .slice A_a0_readings a0.readings.length c_a0_readings]] := H.append E2
    replace R0 := H.ext
    refine LW.pure rfl rfl (RV.move rfl) ?_
    refine LW.pure rfl rfl (RV.extract rfl rfl) ?_
    refine LW.pure rfl rfl (RV.extract rfl rfl) ?_
    refine LW.pure rfl rfl (RV.assign rfl) ?_
    refine LW.pure rfl rfl (RV.assign rfl) ?_
    refine LW.nil (hK5 _ _ ?_)
    refine CW.seq fun K6 hK6 => ?_
    refine CW.region ?_
    refine LW.pure rfl rfl (RV.assign rfl) ?_
    refine LW.nil (hK6 _ _ ?_)
    refine CW.seqJ (fun ρ wl1 => (∃ (l1 : List Rat) (Al1 : Option Addr) (cl1 : Nat), ref01_Residuals_k1 l1 = some res ∧ ρ = [(2, .slice none 0 0), (3, .int .i64 0), (7, .slice Al1 l1.length cl1)] ∧ Hp w wl1 [.own Al1 cl1 28 2 (List.map encRat l1)])) ?_ ?_
    ·
      rintro _ wl1 ⟨l1, Al1, cl1, F, rfl, H⟩
      have R0 := H.ext
      unfold ref01_Residuals_k1 at F
      refine CW.seq fun K7 hK7 => ?_
      refine CW.region ?_
      refine LW.pure rfl rfl (RV.move rfl) ?_
      refine LW.pure rfl rfl (RV.assign rfl) ?_
      refine LW.pure rfl rfl (RV.assign rfl) ?_
      refine LW.nil (hK7 _ _ ?_)
      refine CW.ret ?_
      obtain rfl := Option.some.inj F
      refine ⟨_, (ResOK.two rfl rfl), ?_⟩
      exact ⟨Al1, cl1, (by first | rfl | (simp; done) | (simp; omega)), H⟩
    ·
      intro K8 hK8 jK47
      refine CW.seq fun K9 hK9 => ?_
      refine CW.region ?_
      refine LW.pure rfl rfl (RV.assign rfl) ?_
      refine LW.nil (hK9 _ _ ?_)
      refine CW.block ?_
      replace H := H.nilOwn 28 2
      replace R0 := H.ext
      replace H := H.pick (L' := [.own A12_0 c12_0 3 1 (List.map encN r1.1), .own none 0 28 2 (List.map encRat (([] : List Rat)))]) [1, 0] (by decide) rfl
      replace R0 := H.ext
      refine CW.loop (fun meas ρ wl2 => ∃ (t8_1 : Int) (l2 : List Rat) (Al2 : Option Addr) (cl2 : Nat), ref01_Residuals_L1 r1 meas t8_1 l2 = some res ∧ ρ = [(2, .slice none 0 0), (3, .int .i64 0), (5, .slice A12_0 r1.1.length c12_0), (6, .int .i64 r1.2), (7, .slice Al2 l2.length cl2), (8, .int .i64 t8_1)] ∧ Hp w wl2 [.own A12_0 c12_0 3 1 (List.map encN r1.1), .own Al2 cl2 28 2 (List.map encRat l2)]) FU ⟨_, ?_, ((0 : Int)), (([] : List Rat)), none, 0, F, rfl, H⟩ ?_
      · exact ⟨rfl, rfl, (look_slice rfl (by first | rfl | (simp; done) | omega | (simp; omega))), rfl, (look_slice rfl (by first | rfl | (simp; done) | omega | (simp; omega))), rfl, trivial⟩
      rintro mk1 _ wl2 ⟨t8_1, l2, Al2, cl2, F, rfl, H⟩
      have R0 := H.ext
      replace F := ref01_Residuals_L1_s F
      obtain ⟨mk1, rfl, F⟩ := F
      generalize hrec1 : ref01_Residuals_L1 r1 mk1 = rec1 at F
      unfold ref01_Residuals_B1 at F
      refine CW.seq fun K10 hK10 => ?_
      refine CW.seq fun K11 hK11 => ?_
      refine CW.region ?_
      refine LW.pure rfl rfl (RV.move rfl) ?_
      refine LW.pure rfl rfl (RV.move rfl) ?_
      refine LW.pure rfl rfl (RV.len Ts39 rfl) ?_
      refine LW.pure rfl rfl (RV.lss rfl rfl) ?_
      refine LW.nil (hK11 _ _ ?_)
      by_cases hp2 : t8_1 < ((r1.1.length : Int))
      ·
        replace F := ite_y hp2 F
        have hq2 := dec_t hp2
        refine CW.condT rfl hq2 ?_
        refine CW.skip (hK10 _ _ ?_)
        refine CW.seq fun K12 hK12 => ?_
        refine CW.block ?_
        obtain ⟨x1, hbx1, hx1, F⟩ := ix_some F
        obtain ⟨r2, hr2, F⟩ := bnd_some F
        obtain ⟨hg1, F⟩ := gd_some F
        refine CW.region ?_
        refine LW.pure rfl rfl (RV.move rfl) ?_
        refine LW.pure rfl rfl (RV.move rfl) ?_
        refine LW.pure rfl rfl (RV.move rfl) ?_
        refine LW.pure rfl rfl (RV.indexAddr Ts39 rfl rfl hbx1 ((H.own 0 rfl).sl.addr_ hx1)) ?_
        refine LW.pure rfl rfl (RV.load1 Tk3 rfl ((H.own 0 rfl).sl.at_ hx1) rfl) ?_
        refine LW.pure rfl rfl (RV.move rfl) ?_
        refine LW.go rfl rfl (OW.call Tc33 rfl (ref01_Ratio_ok (a0 := x1) (a1 := r1.2) hr2) ?_)
        rintro _ w4 ⟨rfl, E3⟩
        refine ⟨_, rfl, ?_⟩
        replace H := H.grow E3
        replace R0 := H.ext
        refine LW.go rfl rfl (OW.buildSlice (e := 28) (vs := [.agg #[.int .i64 r2.num, .int .i64 r2.den]]) (cs := [.int .i64 r2.num, .int .i64 r2.den]) rfl (fun _ => by kernel_rfl) fun b2 w5 N2 => ?_)
        replace H := H.made' (k := 2) (t := 28) (enc := encRat) (l := ([r2] : List Rat)) N2 N2.blk (fun _ => rfl) rfl (by first | decide | omega | (simp; done) | (simp; omega))
        replace R0 := H.ext
        refine LW.go rfl rfl (OW.appendG (enc := encRat) (l := l2) (xs := ([r2] : List Rat)) Ts53 rfl (look_slice rfl (by first | rfl | (simp; done) | (simp; omega))) (H.own 2 rfl) (H.own 0 rfl).sl (fun _ => rfl) rfl rfl hg1 (by decide) fun A2 c2 w6 O1 M1 D1 => ?_)
        replace H : Hp w w6 [.own (some ⟨b2, 0, none⟩) ((([r2] : List Rat)).length) 28 2 (List.map encRat (([r2] : List Rat))), .own A12_0 c12_0 3 1 (List.map encN r1.1), .own A2 c2 28 2 (List.map encRat ((l2 ++ ([r2] : List Rat))))] := H.mod 2 rfl M1 O1 D1
        replace R0 := H.ext
        refine LW.pure rfl rfl (RV.assign rfl) ?_
        refine LW.nil (hK12 _ _ ?_)
        obtain ⟨hg2, F⟩ := gd_some F
        refine CW.region ?_
        refine LW.pure rfl rfl (RV.move rfl) ?_
        refine LW.pure rfl rfl (RV.add rfl rfl hg2) ?_
        refine LW.pure rfl rfl (RV.assign rfl) ?_
        refine LW.nil ?_
        replace H := H.pick (L' := [.own A12_0 c12_0 3 1 (List.map encN r1.1), .own A2 c2 28 2 (List.map encRat ((l2 ++ ([r2] : List Rat))))]) [1, 2] (by decide) rfl
        replace R0 := H.ext
        subst hrec1
        refine ⟨mk1, Nat.lt_succ_self _, _, ?_, (t8_1 + 1), ((l2 ++ ([r2] : List Rat))), A2, c2, F, rfl, H⟩
        exact ⟨rfl, rfl, (look_slice rfl (by first | rfl | (simp; done) | omega | (simp; omega))), rfl, (look_slice rfl (by first | rfl | (simp; done) | omega | (simp; omega))), rfl, trivial⟩
      ·
        replace F := ite_n hp2 F
        have hq2 := dec_f hp2
        refine CW.condF rfl hq2 ?_
        replace H := H.pick (L' := [.own Al2 cl2 28 2 (List.map encRat l2)]) [1] (by decide) rfl
        replace R0 := H.ext
        refine CW.exit (jK47 _ _ ⟨_, ?_, ⟨l2, Al2, cl2, F, rfl, H⟩⟩)
        exact ⟨rfl, rfl, (look_slice rfl (by first | rfl | (simp; done) | omega | (simp; omega))), trivial⟩
  ·
    replace F := ite_n hp1 F
    have hq1 := dec_f hp1
    refine CW.condT rfl (not_t hq1) ?_
    refine CW.seq fun K13 hK13 => ?_
    refine CW.region ?_
    refine LW.pure rfl rfl (RV.move rfl) ?_
    refine LW.pure rfl rfl (RV.assign rfl) ?_
    refine LW.pure rfl rfl (RV.assign rfl) ?_
    refine LW.nil (hK13 _ _ ?_)
    refine CW.ret ?_
    obtain rfl := Option.some.inj F
    refine ⟨_, (ResOK.two rfl rfl), ?_⟩
    replace H := H.nilOwn 28 2
    replace R0 := H.ext
    replace H := H.pick (L' := [.own none 0 28 2 (List.map encRat (([] : List Rat)))]) [0] (by decide) rfl
    replace R0 := H.ext
    exact ⟨none, 0, (by first | rfl | (simp; done) | (simp; omega)), H⟩
end Go.D1

set_option linter.unusedVariables false
set_option linter.unusedSimpArgs false
namespace Go.D1
open Go.Tb Go.Proofs Go.RowKit
theorem Tc35 : callable Try.prog 35 = true := by kernel_rfl
theorem Tc36 : callable Try.prog 36 = true := by kernel_rfl
theorem Tc37 : callable Try.prog 37 = true := by kernel_rfl
theorem Tc38 : callable Try.prog 38 = true := by kernel_rfl
theorem Tc39 : callable Try.prog 39 = true := by kernel_rfl
theorem Tc40 : callable Try.prog 40 = true := by kernel_rfl
set_option maxRecDepth 20000 in
set_option maxHeartbeats 1000000 in
theorem level_Misfit_ok {a0 : Survey} {A_a0_readings : Option Addr} {c_a0_readings : Nat} {w : World} {res : Rat × Int} (h_a0_readings : Sl w A_a0_readings c_a0_readings 4 (a0.readings.map encReading)) (F : level_Misfit a0 = some res) : Calls Try.prog 38 #[.agg #[.int .i64 a0.points, .slice A_a0_readings a0.readings.length c_a0_readings]] w (Rt w (.tuple #[.agg #[.int .i64 res.1.num, .int .i64 res.1.den], .int .i64 res.2])) := by
  refine calls_of_cw (args := [.agg #[.int .i64 a0.points, .slice A_a0_readings a0.readings.length c_a0_readings]]) Try.func38 rfl rfl rfl rfl ?_
  have H := Hp.start w
  have R0 := H.ext
  unfold level_Misfit at F
  refine CW.seq fun K1 hK1 => ?_
  refine CW.region ?_
  refine LW.go rfl rfl (OW.box rfl fun b1 w1 N1 => ?_)
  replace H := H.new N1 N1.blk
  replace R0 := H.ext
  refine LW.go rfl rfl (OW.alloc Tz28 fun b2 w2 N2 => ?_)
  replace H := H.new N2 N2.blk
  replace R0 := H.ext
  refine LW.pure rfl rfl (RV.assign rfl) ?_
  refine LW.nil (hK1 _ _ ?_)
  refine CW.seq fun K2 hK2 => ?_
  refine CW.seq fun K3 hK3 => ?_
  obtain ⟨r5, hr5, F⟩ := bnd_some F
  refine CW.region ?_
  refine LW.pure rfl rfl (RV.loadA [.int .i64 a0.points, .slice A_a0_readings a0.readings.length c_a0_readings] Tk24 rfl (H.blk 1 rfl).cells rfl rfl) ?_
  refine LW.go rfl rfl (OW.call Tc25 rfl (level_Validate_ok (a0 := a0) (h_a0_readings.ext R0) hr5) ?_)
  rintro _ w3 ⟨rfl, E1⟩
  refine ⟨_, rfl, ?_⟩
  replace H := H.grow E1
  replace R0 := H.ext
  refine LW.pure rfl rfl (RV.assign rfl) ?_
  refine LW.nil (hK3 _ _ ?_)
  refine CW.seq fun K4 hK4 => ?_
  refine CW.region ?_
  refine LW.pure rfl rfl (RV.move rfl) ?_
  refine LW.pure rfl rfl (RV.nei rfl rfl) ?_
  refine LW.nil (hK4 _ _ ?_)
  by_cases hp1 : r5 = 0
  ·
    replace F := ite_y hp1 F
    have hq1 := dec_t hp1
    refine CW.condF rfl (not_f hq1) ?_
    refine CW.skip (hK2 _ _ ?_)
    refine CW.seq fun K5 hK5 => ?_
    obtain ⟨r3, hr3, F⟩ := bnd_some F
    refine CW.region ?_
    refine LW.pure rfl rfl (RV.loadA [.int .i64 a0.points, .slice A_a0_readings a0.readings.length c_a0_readings] Tk24 rfl (H.blk 1 rfl).cells rfl rfl) ?_
    refine LW.go rfl rfl (OW.call Tc76 rfl (level_residuals_ok (a0 := a0) (h_a0_readings.ext R0) hr3) ?_)
    rintro _ w4 ⟨A14_0, c14_0, rfl, E2⟩
    refine ⟨_, rfl, ?_⟩
    replace H : Hp w w4 [.own A14_0 c14_0 28 2 (List.map encRat r3), .blk b2 28 [.int .i64 0, .int .i64 0], .blk b1 24 [.int .i64 a0.points, .slice A_a0_readings a0.readings.length c_a0_readings]] := H.append E2
    replace R0 := H.ext
    refine LW.pure rfl rfl (RV.assign rfl) ?_
    refine LW.nil (hK5 _ _ ?_)
    refine CW.seq fun K6 hK6 => ?_
    refine CW.region ?_
    refine LW.pure rfl rfl (RV.assign rfl) ?_
    refine LW.nil (hK6 _ _ ?_)
    refine CW.seqJ (fun ρ wl1 => (∃ (t6_1 : Int), level_Misfit_k2 a0 r3 t6_1 = some res ∧ ρ = [(1, .pointer (some (⟨b1, 0, none⟩))), (2, .pointer (some (⟨b2, 0, none⟩))), (3, .int .i64 0), (5, .slice A14_0 r3.length c14_0), (6, .int .i64 t6_1)] ∧ Hp w wl1 [.own A14_0 c14_0 28 2 (List.map encRat r3), .blk b1 24 [.int .i64 a0.points, .slice A_a0_readings a0.readings.length c_a0_readings], .blk b2 28 [.int .i64 0, .int .i64 0]])) ?_ ?_
    ·
      rintro _ wl1 ⟨t6_1, F, rfl, H⟩
      have R0 := H.ext
      unfold level_Misfit_k2 at F
      refine CW.seq fun K7 hK7 => ?_
      refine CW.region ?_
      refine LW.pure rfl rfl (RV.assign rfl) ?_
      refine LW.nil (hK7 _ _ ?_)
      refine CW.seqJ (fun ρ wl2 => (∃ (t9_1 : Int), level_Misfit_k1 t6_1 t9_1 = some res ∧ ρ = [(2, .pointer (some (⟨b2, 0, none⟩))), (3, .int .i64 0), (6, .int .i64 t6_1), (9, .int .i64 t9_1)] ∧ Hp w wl2 [.blk b2 28 [.int .i64 0, .int .i64 0]])) ?_ ?_
      ·
        rintro _ wl2 ⟨t9_1, F, rfl, H⟩
        have R0 := H.ext
        unfold level_Misfit_k1 at F
        refine CW.seq fun K8 hK8 => ?_
        obtain ⟨r1, hr1, F⟩ := bnd_some F
        obtain ⟨r2, hr2, F⟩ := bnd_some F
        refine CW.region ?_
        refine LW.pure rfl rfl (RV.move rfl) ?_
        refine LW.pure rfl rfl (RV.move rfl) ?_
        refine LW.go rfl rfl (OW.call Tc80 rfl (level_ratio_ok (a0 := t9_1) (a1 := t6_1) hr1) ?_)
        rintro _ w5 ⟨rfl, E3⟩
        refine ⟨_, rfl, ?_⟩
        replace H := H.grow E3
        replace R0 := H.ext
        refine LW.pure rfl rfl (RV.move rfl) ?_
        refine LW.pure rfl rfl (RV.build (vs := [.int .i64 t6_1, .int .i64 1]) (cs := [.int .i64 t6_1, .int .i64 1]) rfl (fun _ => by kernel_rfl)) ?_
        refine LW.go rfl rfl (OW.call Tc79 rfl (level_div_ok (a0 := r1) (a1 := (⟨t6_1, 1⟩ : Rat)) hr2) ?_)
        rintro _ w6 ⟨rfl, E4⟩
        refine ⟨_, rfl, ?_⟩
        replace H := H.grow E4
        replace R0 := H.ext
        refine LW.go rfl rfl (OW.store Tk28 rfl rfl (H.blk 0 rfl) (off := 0) (vs := [.int .i64 r2.num, .int .i64 r2.den]) rfl rfl rfl rfl rfl fun w7 S1 => ?_)
        replace H : Hp w w7 [.blk b2 28 [.int .i64 r2.num, .int .i64 r2.den]] := H.stored 0 rfl S1
        replace R0 := H.ext
        refine LW.pure rfl rfl (RV.assign rfl) ?_
        refine LW.nil (hK8 _ _ ?_)
        refine CW.ret ?_
        obtain rfl := Option.some.inj F
        refine ⟨_, (ResOK.two ⟨_, rfl, run_loadVar_agg Tk28 (H.blk 0 rfl).cells (us := [.int .i64 r2.num, .int .i64 r2.den]) rfl rfl⟩ rfl), ?_⟩
        refine ⟨(by first | rfl | simp), R0⟩
      ·
        intro K9 hK9 jK107
        refine CW.seq fun K10 hK10 => ?_
        refine CW.region ?_
        refine LW.pure rfl rfl (RV.move rfl) ?_
        refine LW.pure rfl rfl (RV.len Ts53 rfl) ?_
        refine LW.pure rfl rfl (RV.move rfl) ?_
        refine LW.nil (hK10 _ _ ?_)
        refine CW.block ?_
        refine CW.loop (fun meas ρ wl3 => ∃ (t9_2 : Int) (t39_1 : Int), level_Misfit_L1 a0 r3 t6_1 meas t9_2 t39_1 = some res ∧ ρ = [(1, .pointer (some (⟨b1, 0, none⟩))), (2, .pointer (some (⟨b2, 0, none⟩))), (3, .int .i64 0), (6, .int .i64 t6_1), (9, .int .i64 t9_2), (37, .slice A14_0 r3.length c14_0), (38, .int .i64 ((r3.length : Int))), (39, .int .i64 t39_1)] ∧ Hp w wl3 [.own A14_0 c14_0 28 2 (List.map encRat r3), .blk b1 24 [.int .i64 a0.points, .slice A_a0_readings a0.readings.length c_a0_readings], .blk b2 28 [.int .i64 0, .int .i64 0]]) FU ⟨_, ?_, ((0 : Int)), ((0 : Int)), F, rfl, H⟩ ?_
        · exact ⟨rfl, rfl, rfl, rfl, rfl, (look_slice rfl (by first | rfl | (simp; done) | omega | (simp; omega))), rfl, rfl, trivial⟩
        rintro mk1 _ wl3 ⟨t9_2, t39_1, F, rfl, H⟩
        have R0 := H.ext
        replace F := level_Misfit_L1_s F
        obtain ⟨mk1, rfl, F⟩ := F
        generalize hrec1 : level_Misfit_L1 a0 r3 t6_1 mk1 = rec1 at F
        unfold level_Misfit_B1 at F
        refine CW.seq fun K11 hK11 => ?_
        refine CW.region ?_
        refine LW.pure rfl rfl (RV.lss rfl rfl) ?_
        refine LW.nil (hK11 _ _ ?_)
        refine CW.seq fun K12 hK12 => ?_
        by_cases hp2 : t39_1 < ((r3.length : Int))
        ·
          replace F := ite_y hp2 F
          have hq2 := dec_t hp2
          refine CW.condT rfl hq2 ?_
          refine CW.skip (hK12 _ _ ?_)
          refine CW.seq fun K13 hK13 => ?_
          refine CW.block ?_
          refine CW.seq fun K14 hK14 => ?_
          obtain ⟨x1, hbx1, hx1, F⟩ := ix_some F
          refine CW.region ?_
          refine LW.pure rfl rfl (RV.move rfl) ?_
          refine LW.pure rfl rfl (RV.indexAddr Ts53 rfl rfl hbx1 ((H.own 0 rfl).sl.addr_ hx1)) ?_
          refine LW.pure rfl rfl (RV.loadA [.int .i64 x1.num, .int .i64 x1.den] Tk28 rfl ((H.own 0 rfl).sl.at_ hx1) rfl rfl) ?_
          refine LW.go rfl rfl (OW.alloc Tz28 fun b3 w8 N3 => ?_)
          replace H := H.new N3 N3.blk
          replace R0 := H.ext
          refine LW.pure rfl rfl (RV.assign rfl) ?_
          refine LW.go rfl rfl (OW.store Tk28 rfl rfl (H.blk 0 rfl) (off := 0) (vs := [.int .i64 x1.num, .int .i64 x1.den]) rfl rfl rfl rfl rfl fun w9 S2 => ?_)
          replace H : Hp w w9 [.blk b3 28 [.int .i64 x1.num, .int .i64 x1.den], .own A14_0 c14_0 28 2 (List.map encRat r3), .blk b1 24 [.int .i64 a0.points, .slice A_a0_readings a0.readings.length c_a0_readings], .blk b2 28 [.int .i64 0, .int .i64 0]] := H.stored 0 rfl S2
          replace R0 := H.ext
          refine LW.nil (hK14 _ _ ?_)
          refine CW.seq fun K15 hK15 => ?_
          obtain ⟨hg1, F⟩ := gd_some F
          obtain ⟨hg2, F⟩ := gd_some F
          refine CW.draw [] (fun _ => True) (.cons 0 1 (.cons 1 1 (.cons 2 1 (.cons 3 1 (.cons 4 1 (.cons 5 1 (.cons 6 1 (.cons 7 1 .nil)))))))) mixed (by kernel_rfl) fun w10 E5 => ?_
          replace H := H.grow E5
          replace R0 := H.ext
          refine DW.fix rfl rfl rfl (fun _ EQ => RV.fieldAddr Tf28_0 rfl) ?_
          refine DW.fix rfl rfl rfl (fun _ EQ => RV.load1 Tk3 rfl (((H.grow EQ).blk 0 rfl).cells.off 0) rfl) ?_
          refine DW.fix rfl rfl rfl (fun _ EQ => RV.move rfl) ?_
          refine DW.fix rfl rfl rfl (fun _ EQ => RV.fieldAddr Tf28_1 rfl) ?_
          refine DW.fix rfl rfl rfl (fun _ EQ => RV.load1 Tk3 rfl (((H.grow EQ).blk 0 rfl).cells.off 1) rfl) ?_
          refine DW.fix rfl rfl rfl (fun _ EQ => RV.quo rfl rfl hg1) ?_
          refine DW.fix rfl rfl rfl (fun _ EQ => RV.mul rfl rfl hg2) ?_
          refine DW.fix rfl rfl rfl (fun _ EQ => RV.assign rfl) ?_
          refine DW.nil (hK15 _ _ ?_)
          obtain ⟨x2, hbx2, hx2, F⟩ := ix_some F
          obtain ⟨hg3, F⟩ := gd_some F
          obtain ⟨hg4, F⟩ := gd_some F
          obtain ⟨hg5, F⟩ := gd_some F
          refine CW.region ?_
          refine LW.pure rfl rfl (RV.move rfl) ?_
          refine LW.pure rfl rfl (RV.fieldAddr Tf24_1 rfl) ?_
          refine LW.pure rfl rfl (RV.load1 Tk22 rfl ((H.blk 2 rfl).cells.off 1) rfl) ?_
          refine LW.pure rfl rfl (RV.move rfl) ?_
          refine LW.pure rfl rfl (RV.indexAddr Ts22 rfl rfl hbx2 (h_a0_readings.addr_ hx2)) ?_
          refine LW.pure rfl rfl (RV.fieldAddr Tf46_3 rfl) ?_
          refine LW.pure rfl rfl (RV.load1 Tk3 rfl (((h_a0_readings.at_ hx2).ext R0).off 3) rfl) ?_
          refine LW.pure rfl rfl (RV.move rfl) ?_
          refine LW.pure rfl rfl (RV.mul rfl rfl hg3) ?_
          refine LW.pure rfl rfl (RV.move rfl) ?_
          refine LW.pure rfl rfl (RV.mul rfl rfl hg4) ?_
          refine LW.pure rfl rfl (RV.add rfl rfl hg5) ?_
          refine LW.pure rfl rfl (RV.assign rfl) ?_
          refine LW.nil (hK13 _ _ ?_)
          obtain ⟨hg6, F⟩ := gd_some F
          refine CW.region ?_
          refine LW.pure rfl rfl (RV.add rfl rfl hg6) ?_
          refine LW.pure rfl rfl (RV.move rfl) ?_
          refine LW.nil ?_
          replace H := H.pick (L' := [.own A14_0 c14_0 28 2 (List.map encRat r3), .blk b1 24 [.int .i64 a0.points, .slice A_a0_readings a0.readings.length c_a0_readings], .blk b2 28 [.int .i64 0, .int .i64 0]]) [1, 2, 3] (by decide) rfl
          replace R0 := H.ext
          subst hrec1
          refine ⟨mk1, Nat.lt_succ_self _, _, ?_, (t9_2 + ((x2.weight * (x1.num * (Int.tdiv t6_1 x1.den))) * (x1.num * (Int.tdiv t6_1 x1.den)))), (t39_1 + 1), F, rfl, H⟩
          exact ⟨rfl, rfl, rfl, rfl, rfl, (look_slice rfl (by first | rfl | (simp; done) | omega | (simp; omega))), rfl, rfl, trivial⟩
        ·
          replace F := ite_n hp2 F
          have hq2 := dec_f hp2
          refine CW.condF rfl hq2 ?_
          replace H := H.pick (L' := [.blk b2 28 [.int .i64 0, .int .i64 0]]) [2] (by decide) rfl
          replace R0 := H.ext
          refine CW.exit (jK107 _ _ ⟨_, ?_, ⟨t9_2, F, rfl, H⟩⟩)
          exact ⟨rfl, rfl, rfl, rfl, trivial⟩
    ·
      intro K16 hK16 jK124
      refine CW.seq fun K17 hK17 => ?_
      refine CW.region ?_
      refine LW.pure rfl rfl (RV.move rfl) ?_
      refine LW.pure rfl rfl (RV.len Ts53 rfl) ?_
      refine LW.pure rfl rfl (RV.move rfl) ?_
      refine LW.nil (hK17 _ _ ?_)
      refine CW.block ?_
      replace H := H.pick (L' := [.own A14_0 c14_0 28 2 (List.map encRat r3), .blk b1 24 [.int .i64 a0.points, .slice A_a0_readings a0.readings.length c_a0_readings], .blk b2 28 [.int .i64 0, .int .i64 0]]) [0, 2, 1] (by decide) rfl
      replace R0 := H.ext
      refine CW.loop (fun meas ρ wl4 => ∃ (t6_2 : Int) (t23_1 : Int), level_Misfit_L2 a0 r3 meas t6_2 t23_1 = some res ∧ ρ = [(1, .pointer (some (⟨b1, 0, none⟩))), (2, .pointer (some (⟨b2, 0, none⟩))), (3, .int .i64 0), (5, .slice A14_0 r3.length c14_0), (6, .int .i64 t6_2), (21, .slice A14_0 r3.length c14_0), (22, .int .i64 ((r3.length : Int))), (23, .int .i64 t23_1)] ∧ Hp w wl4 [.own A14_0 c14_0 28 2 (List.map encRat r3), .blk b1 24 [.int .i64 a0.points, .slice A_a0_readings a0.readings.length c_a0_readings], .blk b2 28 [.int .i64 0, .int .i64 0]]) FU ⟨_, ?_, ((1 : Int)), ((0 : Int)), F, rfl, H⟩ ?_
      · exact ⟨rfl, rfl, rfl, (look_slice rfl (by first | rfl | (simp; done) | omega | (simp; omega))), rfl, (look_slice rfl (by first | rfl | (simp; done) | omega | (simp; omega))), rfl, rfl, trivial⟩
      rintro mk2 _ wl4 ⟨t6_2, t23_1, F, rfl, H⟩
      have R0 := H.ext
      replace F := level_Misfit_L2_s F
      obtain ⟨mk2, rfl, F⟩ := F
      generalize hrec2 : level_Misfit_L2 a0 r3 mk2 = rec2 at F
      unfold level_Misfit_B2 at F
      refine CW.seq fun K18 hK18 => ?_
      refine CW.region ?_
      refine LW.pure rfl rfl (RV.lss rfl rfl) ?_
      refine LW.nil (hK18 _ _ ?_)
      refine CW.seq fun K19 hK19 => ?_
      by_cases hp3 : t23_1 < ((r3.length : Int))
      ·
        replace F := ite_y hp3 F
        have hq3 := dec_t hp3
        refine CW.condT rfl hq3 ?_
        refine CW.skip (hK19 _ _ ?_)
        refine CW.seq fun K20 hK20 => ?_
        refine CW.block ?_
        refine CW.seq fun K21 hK21 => ?_
        obtain ⟨x3, hbx3, hx3, F⟩ := ix_some F
        refine CW.region ?_
        refine LW.pure rfl rfl (RV.indexAddr Ts53 rfl rfl hbx3 ((H.own 0 rfl).sl.addr_ hx3)) ?_
        refine LW.pure rfl rfl (RV.loadA [.int .i64 x3.num, .int .i64 x3.den] Tk28 rfl ((H.own 0 rfl).sl.at_ hx3) rfl rfl) ?_
        refine LW.go rfl rfl (OW.alloc Tz28 fun b4 w11 N4 => ?_)
        replace H := H.new N4 N4.blk
        replace R0 := H.ext
        refine LW.go rfl rfl (OW.store Tk28 rfl rfl (H.blk 0 rfl) (off := 0) (vs := [.int .i64 x3.num, .int .i64 x3.den]) rfl rfl rfl rfl rfl fun w12 S3 => ?_)
        replace H : Hp w w12 [.blk b4 28 [.int .i64 x3.num, .int .i64 x3.den], .own A14_0 c14_0 28 2 (List.map encRat r3), .blk b1 24 [.int .i64 a0.points, .slice A_a0_readings a0.readings.length c_a0_readings], .blk b2 28 [.int .i64 0, .int .i64 0]] := H.stored 0 rfl S3
        replace R0 := H.ext
        refine LW.nil (hK21 _ _ ?_)
        obtain ⟨r4, hr4, F⟩ := bnd_some F
        obtain ⟨hg7, F⟩ := gd_some F
        obtain ⟨hg8, F⟩ := gd_some F
        refine CW.draw [] (fun _ => True) (.cons 0 1 (.cons 1 1 (.cons 2 1 (.cons 3 1 (.cons 6 1 (.cons 7 1 (.cons 4 0 (.cons 5 1 (.cons 8 1 (.cons 9 1 .nil)))))))))) mixed (by kernel_rfl) fun w13 E6 => ?_
        replace H := H.grow E6
        replace R0 := H.ext
        refine DW.fix rfl rfl rfl (fun _ EQ => RV.move rfl) ?_
        refine DW.fix rfl rfl rfl (fun _ EQ => RV.move rfl) ?_
        refine DW.fix rfl rfl rfl (fun _ EQ => RV.fieldAddr Tf28_1 rfl) ?_
        refine DW.fix rfl rfl rfl (fun _ EQ => RV.load1 Tk3 rfl (((H.grow EQ).blk 0 rfl).cells.off 1) rfl) ?_
        refine DW.fix rfl rfl rfl (fun _ EQ => RV.fieldAddr Tf28_1 rfl) ?_
        refine DW.fix rfl rfl rfl (fun _ EQ => RV.load1 Tk3 rfl (((H.grow EQ).blk 0 rfl).cells.off 1) rfl) ?_
        refine DW.sole rfl rfl rfl (OW.call Tc78 rfl (level_gcd_ok (a0 := t6_2) (a1 := x3.den) hr4) ?_)
        rintro _ w14 ⟨rfl, E7⟩
        refine ⟨_, rfl, fun _ => E7, ModX.ext E7, ?_⟩
        replace H := H.grow E7
        replace R0 := H.ext
        refine DW.fix rfl rfl rfl (fun _ EQ => RV.quo rfl rfl hg7) ?_
        refine DW.fix rfl rfl rfl (fun _ EQ => RV.mul rfl rfl hg8) ?_
        refine DW.fix rfl rfl rfl (fun _ EQ => RV.assign rfl) ?_
        refine DW.nil (hK20 _ _ ?_)
        obtain ⟨hg9, F⟩ := gd_some F
        refine CW.region ?_
        refine LW.pure rfl rfl (RV.add rfl rfl hg9) ?_
        refine LW.pure rfl rfl (RV.move rfl) ?_
        refine LW.nil ?_
        replace H := H.pick (L' := [.own A14_0 c14_0 28 2 (List.map encRat r3), .blk b1 24 [.int .i64 a0.points, .slice A_a0_readings a0.readings.length c_a0_readings], .blk b2 28 [.int .i64 0, .int .i64 0]]) [1, 2, 3] (by decide) rfl
        replace R0 := H.ext
        subst hrec2
        refine ⟨mk2, Nat.lt_succ_self _, _, ?_, ((Int.tdiv t6_2 r4) * x3.den), (t23_1 + 1), F, rfl, H⟩
        exact ⟨rfl, rfl, rfl, (look_slice rfl (by first | rfl | (simp; done) | omega | (simp; omega))), rfl, (look_slice rfl (by first | rfl | (simp; done) | omega | (simp; omega))), rfl, rfl, trivial⟩
      ·
        replace F := ite_n hp3 F
        have hq3 := dec_f hp3
        refine CW.condF rfl hq3 ?_
        refine CW.exit (jK124 _ _ ⟨_, ?_, ⟨t6_2, F, rfl, H⟩⟩)
        exact ⟨rfl, rfl, rfl, (look_slice rfl (by first | rfl | (simp; done) | omega | (simp; omega))), rfl, trivial⟩
  ·
    replace F := ite_n hp1 F
    have hq1 := dec_f hp1
    refine CW.condT rfl (not_t hq1) ?_
    refine CW.seq fun K22 hK22 => ?_
    refine CW.region ?_
    refine LW.pure rfl rfl (RV.build (vs := []) (cs := [.int .i64 0, .int .i64 0]) rfl (fun _ => by kernel_rfl)) ?_
    refine LW.pure rfl rfl (RV.move rfl) ?_
    refine LW.go rfl rfl (OW.store Tk28 rfl rfl (H.blk 0 rfl) (off := 0) (vs := [.int .i64 0, .int .i64 0]) rfl rfl rfl rfl rfl fun w15 S4 => ?_)
    replace H : Hp w w15 [.blk b2 28 [.int .i64 0, .int .i64 0], .blk b1 24 [.int .i64 a0.points, .slice A_a0_readings a0.readings.length c_a0_readings]] := H.stored 0 rfl S4
    replace R0 := H.ext
    refine LW.pure rfl rfl (RV.assign rfl) ?_
    refine LW.nil (hK22 _ _ ?_)
    refine CW.ret ?_
    obtain rfl := Option.some.inj F
    refine ⟨_, (ResOK.two ⟨_, rfl, run_loadVar_agg Tk28 (H.blk 0 rfl).cells (us := [.int .i64 0, .int .i64 0]) rfl rfl⟩ rfl), ?_⟩
    refine ⟨(by first | rfl | simp), R0⟩
set_option maxRecDepth 20000 in
set_option maxHeartbeats 1000000 in
theorem ref01_Misfit_ok {a0 : Survey} {A_a0_readings : Option Addr} {c_a0_readings : Nat} {w : World} {res : Rat × Int} (h_a0_readings : Sl w A_a0_readings c_a0_readings 4 (a0.readings.map encReading)) (F : ref01_Misfit a0 = some res) : Calls Try.prog 39 #[.agg #[.int .i64 a0.points, .slice A_a0_readings a0.readings.length c_a0_readings]] w (Rt w (.tuple #[.agg #[.int .i64 res.1.num, .int .i64 res.1.den], .int .i64 res.2])) := by
  refine calls_of_cw (args := [.agg #[.int .i64 a0.points, .slice A_a0_readings a0.readings.length c_a0_readings]]) Try.func39 rfl rfl rfl rfl ?_
  have H := Hp.start w
  have R0 := H.ext
  unfold ref01_Misfit at F
  refine CW.seq fun K1 hK1 => ?_
  refine CW.region ?_
  refine LW.go rfl rfl (OW.box rfl fun b1 w1 N1 => ?_)
  replace H := H.new N1 N1.blk
  replace R0 := H.ext
  refine LW.go rfl rfl (OW.alloc Tz28 fun b2 w2 N2 => ?_)
  replace H := H.new N2 N2.blk
  replace R0 := H.ext
  refine LW.pure rfl rfl (RV.assign rfl) ?_
  refine LW.nil (hK1 _ _ ?_)
  refine CW.seq fun K2 hK2 => ?_
  refine CW.seq fun K3 hK3 => ?_
  obtain ⟨r3, hr3, F⟩ := bnd_some F
  refine CW.region ?_
  refine LW.pure rfl rfl (RV.loadA [.int .i64 a0.points, .slice A_a0_readings a0.readings.length c_a0_readings] Tk24 rfl (H.blk 1 rfl).cells rfl rfl) ?_
  refine LW.go rfl rfl (OW.call Tc26 rfl (ref01_Validate_ok (a0 := a0) (h_a0_readings.ext R0) hr3) ?_)
  rintro _ w3 ⟨rfl, E1⟩
  refine ⟨_, rfl, ?_⟩
  replace H := H.grow E1
  replace R0 := H.ext
  refine LW.pure rfl rfl (RV.assign rfl) ?_
  refine LW.nil (hK3 _ _ ?_)
  refine CW.seq fun K4 hK4 => ?_
  refine CW.region ?_
  refine LW.pure rfl rfl (RV.move rfl) ?_
  refine LW.pure rfl rfl (RV.nei rfl rfl) ?_
  refine LW.nil (hK4 _ _ ?_)
  by_cases hp1 : r3 = 0
  ·
    replace F := ite_y hp1 F
    have hq1 := dec_t hp1
    refine CW.condF rfl (not_f hq1) ?_
    refine CW.skip (hK2 _ _ ?_)
    refine CW.seq fun K5 hK5 => ?_
    obtain ⟨r1, hr1, F⟩ := bnd_some F
    refine CW.region ?_
    refine LW.pure rfl rfl (RV.loadA [.int .i64 a0.points, .slice A_a0_readings a0.readings.length c_a0_readings] Tk24 rfl (H.blk 1 rfl).cells rfl rfl) ?_
    refine LW.go rfl rfl (OW.call Tc77 rfl (ref01_residuals_ok (a0 := a0) (h_a0_readings.ext R0) hr1) ?_)
    rintro _ w4 ⟨A7_0, c7_0, rfl, E2⟩
    refine ⟨_, rfl, ?_⟩
    replace H : Hp w w4 [.own A7_0 c7_0 3 1 (List.map encN r1.1), .blk b2 28 [.int .i64 0, .int .i64 0], .blk b1 24 [.int .i64 a0.points, .slice A_a0_readings a0.readings.length c_a0_readings]] := H.append E2
    replace R0 := H.ext
    refine LW.pure rfl rfl (RV.move rfl) ?_
    refine LW.pure rfl rfl (RV.extract rfl rfl) ?_
    refine LW.pure rfl rfl (RV.extract rfl rfl) ?_
    refine LW.pure rfl rfl (RV.assign rfl) ?_
    refine LW.pure rfl rfl (RV.assign rfl) ?_
    refine LW.nil (hK5 _ _ ?_)
    refine CW.seq fun K6 hK6 => ?_
    refine CW.region ?_
    refine LW.pure rfl rfl (RV.assign rfl) ?_
    refine LW.nil (hK6 _ _ ?_)
    refine CW.seqJ (fun ρ wl1 => (∃ (t7_1 : Int), ref01_Misfit_k1 r1 t7_1 = some res ∧ ρ = [(2, .pointer (some (⟨b2, 0, none⟩))), (3, .int .i64 0), (6, .int .i64 r1.2), (7, .int .i64 t7_1)] ∧ Hp w wl1 [.blk b2 28 [.int .i64 0, .int .i64 0]])) ?_ ?_
    ·
      rintro _ wl1 ⟨t7_1, F, rfl, H⟩
      have R0 := H.ext
      unfold ref01_Misfit_k1 at F
      refine CW.seq fun K7 hK7 => ?_
      obtain ⟨hg1, F⟩ := gd_some F
      obtain ⟨r2, hr2, F⟩ := bnd_some F
      refine CW.region ?_
      refine LW.pure rfl rfl (RV.move rfl) ?_
      refine LW.pure rfl rfl (RV.move rfl) ?_
      refine LW.pure rfl rfl (RV.move rfl) ?_
      refine LW.pure rfl rfl (RV.mul rfl rfl hg1) ?_
      refine LW.go rfl rfl (OW.call Tc33 rfl (ref01_Ratio_ok (a0 := t7_1) (a1 := r1.2 * r1.2) hr2) ?_)
      rintro _ w5 ⟨rfl, E3⟩
      refine ⟨_, rfl, ?_⟩
      replace H := H.grow E3
      replace R0 := H.ext
      refine LW.go rfl rfl (OW.store Tk28 rfl rfl (H.blk 0 rfl) (off := 0) (vs := [.int .i64 r2.num, .int .i64 r2.den]) rfl rfl rfl rfl rfl fun w6 S1 => ?_)
      replace H : Hp w w6 [.blk b2 28 [.int .i64 r2.num, .int .i64 r2.den]] := H.stored 0 rfl S1
      replace R0 := H.ext
      refine LW.pure rfl rfl (RV.assign rfl) ?_
      refine LW.nil (hK7 _ _ ?_)
      refine CW.ret ?_
      obtain rfl := Option.some.inj F
      refine ⟨_, (ResOK.two ⟨_, rfl, run_loadVar_agg Tk28 (H.blk 0 rfl).cells (us := [.int .i64 r2.num, .int .i64 r2.den]) rfl rfl⟩ rfl), ?_⟩
      refine ⟨(by first | rfl | simp), R0⟩
    ·
      intro K8 hK8 jK47
      refine CW.seq fun K9 hK9 => ?_
      refine CW.region ?_
      refine LW.pure rfl rfl (RV.assign rfl) ?_
      refine LW.nil (hK9 _ _ ?_)
      refine CW.block ?_
      replace H := H.pick (L' := [.own A7_0 c7_0 3 1 (List.map encN r1.1), .blk b1 24 [.int .i64 a0.points, .slice A_a0_readings a0.readings.length c_a0_readings], .blk b2 28 [.int .i64 0, .int .i64 0]]) [0, 2, 1] (by decide) rfl
      replace R0 := H.ext
      refine CW.loop (fun meas ρ wl2 => ∃ (t7_2 : Int) (t8_1 : Int), ref01_Misfit_L1 a0 r1 meas t7_2 t8_1 = some res ∧ ρ = [(1, .pointer (some (⟨b1, 0, none⟩))), (2, .pointer (some (⟨b2, 0, none⟩))), (3, .int .i64 0), (5, .slice A7_0 r1.1.length c7_0), (6, .int .i64 r1.2), (7, .int .i64 t7_2), (8, .int .i64 t8_1)] ∧ Hp w wl2 [.own A7_0 c7_0 3 1 (List.map encN r1.1), .blk b1 24 [.int .i64 a0.points, .slice A_a0_readings a0.readings.length c_a0_readings], .blk b2 28 [.int .i64 0, .int .i64 0]]) FU ⟨_, ?_, ((0 : Int)), ((0 : Int)), F, rfl, H⟩ ?_
      · exact ⟨rfl, rfl, rfl, (look_slice rfl (by first | rfl | (simp; done) | omega | (simp; omega))), rfl, rfl, rfl, trivial⟩
      rintro mk1 _ wl2 ⟨t7_2, t8_1, F, rfl, H⟩
      have R0 := H.ext
      replace F := ref01_Misfit_L1_s F
      obtain ⟨mk1, rfl, F⟩ := F
      generalize hrec1 : ref01_Misfit_L1 a0 r1 mk1 = rec1 at F
      unfold ref01_Misfit_B1 at F
      refine CW.seq fun K10 hK10 => ?_
      refine CW.seq fun K11 hK11 => ?_
      refine CW.region ?_
      refine LW.pure rfl rfl (RV.move rfl) ?_
      refine LW.pure rfl rfl (RV.move rfl) ?_
      refine LW.pure rfl rfl (RV.len Ts39 rfl) ?_
      refine LW.pure rfl rfl (RV.lss rfl rfl) ?_
      refine LW.nil (hK11 _ _ ?_)
      by_cases hp2 : t8_1 < ((r1.1.length : Int))
      ·
        replace F := ite_y hp2 F
        have hq2 := dec_t hp2
        refine CW.condT rfl hq2 ?_
        refine CW.skip (hK10 _ _ ?_)
        refine CW.seq fun K12 hK12 => ?_
        refine CW.block ?_
        obtain ⟨x1, hbx1, hx1, F⟩ := ix_some F
        obtain ⟨x2, hbx2, hx2, F⟩ := ix_some F
        obtain ⟨hg2, F⟩ := gd_some F
        obtain ⟨x3, hbx3, hx3, F⟩ := ix_some F
        obtain ⟨hg3, F⟩ := gd_some F
        obtain ⟨hg4, F⟩ := gd_some F
        refine CW.draw [] (fun _ => True) (.cons 0 1 (.cons 1 1 (.cons 2 1 (.cons 3 1 (.cons 4 1 (.cons 5 1 (.cons 6 1 (.cons 7 1 (.cons 8 1 (.cons 9 1 (.cons 10 1 (.cons 11 1 (.cons 12 1 (.cons 13 1 (.cons 14 1 (.cons 15 1 (.cons 16 1 (.cons 17 1 (.cons 18 1 .nil))))))))))))))))))) mixed (by kernel_rfl) fun w7 E4 => ?_
        replace H := H.grow E4
        replace R0 := H.ext
        refine DW.fix rfl rfl rfl (fun _ EQ => RV.move rfl) ?_
        refine DW.fix rfl rfl rfl (fun _ EQ => RV.fieldAddr Tf24_1 rfl) ?_
        refine DW.fix rfl rfl rfl (fun _ EQ => RV.load1 Tk22 rfl (((H.grow EQ).blk 1 rfl).cells.off 1) rfl) ?_
        refine DW.fix rfl rfl rfl (fun _ EQ => RV.move rfl) ?_
        refine DW.fix rfl rfl rfl (fun _ EQ => RV.indexAddr Ts22 rfl rfl hbx1 (h_a0_readings.addr_ hx1)) ?_
        refine DW.fix rfl rfl rfl (fun _ EQ => RV.fieldAddr Tf46_3 rfl) ?_
        refine DW.fix rfl rfl rfl (fun _ EQ => RV.load1 Tk3 rfl (((h_a0_readings.at_ hx1).ext (R0.trans EQ)).off 3) rfl) ?_
        refine DW.fix rfl rfl rfl (fun _ EQ => RV.move rfl) ?_
        refine DW.fix rfl rfl rfl (fun _ EQ => RV.move rfl) ?_
        refine DW.fix rfl rfl rfl (fun _ EQ => RV.indexAddr Ts39 rfl rfl hbx2 ((H.own 0 rfl).sl.addr_ hx2)) ?_
        refine DW.fix rfl rfl rfl (fun _ EQ => RV.load1 Tk3 rfl (((H.grow EQ).own 0 rfl).sl.at_ hx2) rfl) ?_
        refine DW.fix rfl rfl rfl (fun _ EQ => RV.mul rfl rfl hg2) ?_
        refine DW.fix rfl rfl rfl (fun _ EQ => RV.move rfl) ?_
        refine DW.fix rfl rfl rfl (fun _ EQ => RV.move rfl) ?_
        refine DW.fix rfl rfl rfl (fun _ EQ => RV.indexAddr Ts39 rfl rfl hbx3 ((H.own 0 rfl).sl.addr_ hx3)) ?_
        refine DW.fix rfl rfl rfl (fun _ EQ => RV.load1 Tk3 rfl (((H.grow EQ).own 0 rfl).sl.at_ hx3) rfl) ?_
        refine DW.fix rfl rfl rfl (fun _ EQ => RV.mul rfl rfl hg3) ?_
        refine DW.fix rfl rfl rfl (fun _ EQ => RV.add rfl rfl hg4) ?_
        refine DW.fix rfl rfl rfl (fun _ EQ => RV.assign rfl) ?_
        refine DW.nil (hK12 _ _ ?_)
        obtain ⟨hg5, F⟩ := gd_some F
        refine CW.region ?_
        refine LW.pure rfl rfl (RV.move rfl) ?_
        refine LW.pure rfl rfl (RV.add rfl rfl hg5) ?_
        refine LW.pure rfl rfl (RV.assign rfl) ?_
        refine LW.nil ?_
        subst hrec1
        refine ⟨mk1, Nat.lt_succ_self _, _, ?_, (t7_2 + ((x1.weight * x2) * x3)), (t8_1 + 1), F, rfl, H⟩
        exact ⟨rfl, rfl, rfl, (look_slice rfl (by first | rfl | (simp; done) | omega | (simp; omega))), rfl, rfl, rfl, trivial⟩
      ·
        replace F := ite_n hp2 F
        have hq2 := dec_f hp2
        refine CW.condF rfl hq2 ?_
        replace H := H.pick (L' := [.blk b2 28 [.int .i64 0, .int .i64 0]]) [2] (by decide) rfl
        replace R0 := H.ext
        refine CW.exit (jK47 _ _ ⟨_, ?_, ⟨t7_2, F, rfl, H⟩⟩)
        exact ⟨rfl, rfl, rfl, rfl, trivial⟩
  ·
    replace F := ite_n hp1 F
    have hq1 := dec_f hp1
    refine CW.condT rfl (not_t hq1) ?_
    refine CW.seq fun K13 hK13 => ?_
    refine CW.region ?_
    refine LW.pure rfl rfl (RV.build (vs := []) (cs := [.int .i64 0, .int .i64 0]) rfl (fun _ => by kernel_rfl)) ?_
    refine LW.pure rfl rfl (RV.move rfl) ?_
    refine LW.go rfl rfl (OW.store Tk28 rfl rfl (H.blk 0 rfl) (off := 0) (vs := [.int .i64 0, .int .i64 0]) rfl rfl rfl rfl rfl fun w8 S2 => ?_)
    replace H : Hp w w8 [.blk b2 28 [.int .i64 0, .int .i64 0], .blk b1 24 [.int .i64 a0.points, .slice A_a0_readings a0.readings.length c_a0_readings]] := H.stored 0 rfl S2
    replace R0 := H.ext
    refine LW.pure rfl rfl (RV.assign rfl) ?_
    refine LW.nil (hK13 _ _ ?_)
    refine CW.ret ?_
    obtain rfl := Option.some.inj F
    refine ⟨_, (ResOK.two ⟨_, rfl, run_loadVar_agg Tk28 (H.blk 0 rfl).cells (us := [.int .i64 0, .int .i64 0]) rfl rfl⟩ rfl), ?_⟩
    refine ⟨(by first | rfl | simp), R0⟩
set_option maxRecDepth 20000 in
set_option maxHeartbeats 1000000 in
theorem ref01_SameRats_ok {a0 : List Rat} {a1 : List Rat} {A_a0 : Option Addr} {c_a0 : Nat} {A_a1 : Option Addr} {c_a1 : Nat} {w : World} {res : Bool} (h_a0 : Sl w A_a0 c_a0 2 (a0.map encRat)) (h_a1 : Sl w A_a1 c_a1 2 (a1.map encRat)) (F : ref01_SameRats a0 a1 = some res) : Calls Try.prog 40 #[.slice A_a0 a0.length c_a0, .slice A_a1 a1.length c_a1] w (Rt w (.bool res)) := by
  refine calls_of_cw (args := [.slice A_a0 a0.length c_a0, .slice A_a1 a1.length c_a1]) Try.func40 rfl rfl rfl rfl ?_
  have H := Hp.start w
  have R0 := H.ext
  unfold ref01_SameRats at F
  refine CW.seq fun K1 hK1 => ?_
  refine CW.region ?_
  refine LW.pure rfl rfl (RV.assign rfl) ?_
  refine LW.nil (hK1 _ _ ?_)
  refine CW.seq fun K2 hK2 => ?_
  refine CW.seq fun K3 hK3 => ?_
  refine CW.region ?_
  refine LW.pure rfl rfl (RV.move rfl) ?_
  refine LW.pure rfl rfl (RV.len Ts53 rfl) ?_
  refine LW.pure rfl rfl (RV.move rfl) ?_
  refine LW.pure rfl rfl (RV.len Ts53 rfl) ?_
  refine LW.pure rfl rfl (RV.nei rfl rfl) ?_
  refine LW.nil (hK3 _ _ ?_)
  by_cases hp1 : ((a0.length : Int)) = ((a1.length : Int))
  ·
    replace F := ite_y hp1 F
    have hq1 := dec_t hp1
    refine CW.condF rfl (not_f hq1) ?_
    refine CW.skip (hK2 _ _ ?_)
    refine CW.seqJ (fun ρ wl1 => (ref01_SameRats_k1 = some res ∧ ρ = [(4, .bool false)] ∧ Hp w wl1 [])) ?_ ?_
    ·
      rintro _ wl1 ⟨F, rfl, H⟩
      have R0 := H.ext
      unfold ref01_SameRats_k1 at F
      refine CW.seq fun K4 hK4 => ?_
      refine CW.region ?_
      refine LW.pure rfl rfl (RV.assign rfl) ?_
      refine LW.nil (hK4 _ _ ?_)
      refine CW.ret ?_
      obtain rfl := Option.some.inj F
      refine ⟨_, (ResOK.one rfl), ?_⟩
      refine ⟨(by first | rfl | simp), R0⟩
    ·
      intro K5 hK5 jK59
      refine CW.seq fun K6 hK6 => ?_
      refine CW.region ?_
      refine LW.pure rfl rfl (RV.assign rfl) ?_
      refine LW.nil (hK6 _ _ ?_)
      refine CW.block ?_
      refine CW.loop (fun meas ρ wl2 => ∃ (t5_1 : Int), ref01_SameRats_L1 a0 a1 meas t5_1 = some res ∧ ρ = [(0, .slice A_a0 a0.length c_a0), (1, .slice A_a1 a1.length c_a1), (4, .bool false), (5, .int .i64 t5_1)] ∧ Hp w wl2 []) FU ⟨_, ?_, ((0 : Int)), F, rfl, H⟩ ?_
      · exact ⟨rfl, rfl, rfl, rfl, trivial⟩
      rintro mk1 _ wl2 ⟨t5_1, F, rfl, H⟩
      have R0 := H.ext
      replace F := ref01_SameRats_L1_s F
      obtain ⟨mk1, rfl, F⟩ := F
      generalize hrec1 : ref01_SameRats_L1 a0 a1 mk1 = rec1 at F
      unfold ref01_SameRats_B1 at F
      refine CW.seq fun K7 hK7 => ?_
      refine CW.seq fun K8 hK8 => ?_
      refine CW.region ?_
      refine LW.pure rfl rfl (RV.move rfl) ?_
      refine LW.pure rfl rfl (RV.move rfl) ?_
      refine LW.pure rfl rfl (RV.len Ts53 rfl) ?_
      refine LW.pure rfl rfl (RV.lss rfl rfl) ?_
      refine LW.nil (hK8 _ _ ?_)
      by_cases hp2 : t5_1 < ((a0.length : Int))
      ·
        replace F := ite_y hp2 F
        have hq2 := dec_t hp2
        refine CW.condT rfl hq2 ?_
        refine CW.skip (hK7 _ _ ?_)
        refine CW.seq fun K9 hK9 => ?_
        refine CW.block ?_
        refine CW.seq fun K10 hK10 => ?_
        obtain ⟨x1, hbx1, hx1, F⟩ := ix_some F
        obtain ⟨x2, hbx2, hx2, F⟩ := ix_some F
        refine CW.draw [] (fun _ => True) (.cons 0 1 (.cons 1 1 (.cons 2 1 (.cons 3 1 (.cons 4 1 (.cons 5 1 (.cons 6 1 (.cons 7 1 (.cons 8 1 .nil))))))))) mixed (by kernel_rfl) fun w1 E1 => ?_
        replace H := H.grow E1
        replace R0 := H.ext
        refine DW.fix rfl rfl rfl (fun _ EQ => RV.move rfl) ?_
        refine DW.fix rfl rfl rfl (fun _ EQ => RV.move rfl) ?_
        refine DW.fix rfl rfl rfl (fun _ EQ => RV.indexAddr Ts53 rfl rfl hbx1 (h_a0.addr_ hx1)) ?_
        refine DW.fix rfl rfl rfl (fun _ EQ => RV.loadA [.int .i64 x1.num, .int .i64 x1.den] Tk28 rfl ((h_a0.at_ hx1).ext (R0.trans EQ)) rfl rfl) ?_
        refine DW.fix rfl rfl rfl (fun _ EQ => RV.move rfl) ?_
        refine DW.fix rfl rfl rfl (fun _ EQ => RV.move rfl) ?_
        refine DW.fix rfl rfl rfl (fun _ EQ => RV.indexAddr Ts53 rfl rfl hbx2 (h_a1.addr_ hx2)) ?_
        refine DW.fix rfl rfl rfl (fun _ EQ => RV.loadA [.int .i64 x2.num, .int .i64 x2.den] Tk28 rfl ((h_a1.at_ hx2).ext (R0.trans EQ)) rfl rfl) ?_
        refine DW.fix rfl rfl rfl (fun _ EQ => RV.neA Te28g (Te28 _ _ _ _ ) rfl rfl) ?_
        refine DW.nil (hK10 _ _ ?_)
        by_cases hp3 : ((x1.num == x2.num) && (x1.den == x2.den)) = true
        ·
          replace F := ite_y hp3 F
          have hq3 : ((x1.num == x2.num) && (x1.den == x2.den)) = true := hp3
          refine CW.condF rfl (not_f hq3) ?_
          refine CW.skip (hK9 _ _ ?_)
          obtain ⟨hg1, F⟩ := gd_some F
          refine CW.region ?_
          refine LW.pure rfl rfl (RV.move rfl) ?_
          refine LW.pure rfl rfl (RV.add rfl rfl hg1) ?_
          refine LW.pure rfl rfl (RV.assign rfl) ?_
          refine LW.nil ?_
          subst hrec1
          refine ⟨mk1, Nat.lt_succ_self _, _, ?_, (t5_1 + 1), F, rfl, H⟩
          exact ⟨rfl, rfl, rfl, rfl, trivial⟩
        ·
          replace F := ite_n hp3 F
          have hq3 : ((x1.num == x2.num) && (x1.den == x2.den)) = false := raw_f hp3
          refine CW.condT rfl (not_t hq3) ?_
          refine CW.seq fun K11 hK11 => ?_
          refine CW.region ?_
          refine LW.pure rfl rfl (RV.assign rfl) ?_
          refine LW.nil (hK11 _ _ ?_)
          refine CW.ret ?_
          obtain rfl := Option.some.inj F
          refine ⟨_, (ResOK.one rfl), ?_⟩
          refine ⟨(by first | rfl | simp), R0⟩
      ·
        replace F := ite_n hp2 F
        have hq2 := dec_f hp2
        refine CW.condF rfl hq2 ?_
        refine CW.exit (jK59 _ _ ⟨_, ?_, ⟨F, rfl, H⟩⟩)
        exact ⟨rfl, trivial⟩
  ·
    replace F := ite_n hp1 F
    have hq1 := dec_f hp1
    refine CW.condT rfl (not_t hq1) ?_
    refine CW.seq fun K12 hK12 => ?_
    refine CW.region ?_
    refine LW.pure rfl rfl (RV.assign rfl) ?_
    refine LW.nil (hK12 _ _ ?_)
    refine CW.ret ?_
    obtain rfl := Option.some.inj F
    refine ⟨_, (ResOK.one rfl), ?_⟩
    refine ⟨(by first | rfl | simp), R0⟩
set_option maxRecDepth 20000 in
set_option maxHeartbeats 1000000 in
theorem law01_LevelBest_ok {a0 : Survey} {A_a0_readings : Option Addr} {c_a0_readings : Nat} {w : World} {res : Bool} (h_a0_readings : Sl w A_a0_readings c_a0_readings 4 (a0.readings.map encReading)) (F : law01_LevelBest a0 = some res) : Calls Try.prog 8 #[.agg #[.int .i64 a0.points, .slice A_a0_readings a0.readings.length c_a0_readings]] w (Rt w (.bool res)) := by
  refine calls_of_cw (args := [.agg #[.int .i64 a0.points, .slice A_a0_readings a0.readings.length c_a0_readings]]) Try.func8 rfl rfl rfl rfl ?_
  have H := Hp.start w
  have R0 := H.ext
  unfold law01_LevelBest at F
  refine CW.seq fun K1 hK1 => ?_
  refine CW.region ?_
  refine LW.go rfl rfl (OW.box rfl fun b1 w1 N1 => ?_)
  replace H := H.new N1 N1.blk
  replace R0 := H.ext
  refine LW.pure rfl rfl (RV.assign rfl) ?_
  refine LW.nil (hK1 _ _ ?_)
  refine CW.seq fun K2 hK2 => ?_
  refine CW.seq fun K3 hK3 => ?_
  obtain ⟨r1, hr1, F⟩ := bnd_some F
  refine CW.region ?_
  refine LW.pure rfl rfl (RV.loadA [.int .i64 a0.points, .slice A_a0_readings a0.readings.length c_a0_readings] Tk24 rfl (H.blk 0 rfl).cells rfl rfl) ?_
  refine LW.go rfl rfl (OW.call Tc17 rfl (law01_Long_ok (a0 := a0) (h_a0_readings.ext R0) hr1) ?_)
  rintro _ w2 ⟨rfl, E1⟩
  refine ⟨_, rfl, ?_⟩
  replace H := H.grow E1
  replace R0 := H.ext
  refine LW.nil (hK3 _ _ ?_)
  by_cases hp1 : r1 = true
  ·
    replace F := ite_y hp1 F
    have hq1 : r1 = true := hp1
    refine CW.condT rfl hq1 ?_
    refine CW.seq fun K4 hK4 => ?_
    obtain ⟨r2, hr2, F⟩ := bnd_some F
    refine CW.region ?_
    refine LW.go rfl rfl (OW.call Tc18 rfl (law01_known_ok hr2) ?_)
    rintro _ w3 ⟨rfl, E2⟩
    refine ⟨_, rfl, ?_⟩
    replace H := H.grow E2
    replace R0 := H.ext
    refine LW.pure rfl rfl (RV.assign rfl) ?_
    refine LW.nil (hK4 _ _ ?_)
    refine CW.ret ?_
    obtain rfl := Option.some.inj F
    refine ⟨_, (ResOK.one rfl), ?_⟩
    refine ⟨(by first | rfl | simp), R0⟩
  ·
    replace F := ite_n hp1 F
    have hq1 : r1 = false := raw_f hp1
    refine CW.condF rfl hq1 ?_
    refine CW.skip (hK2 _ _ ?_)
    refine CW.seq fun K5 hK5 => ?_
    obtain ⟨r3, hr3, F⟩ := bnd_some F
    refine CW.region ?_
    refine LW.pure rfl rfl (RV.loadA [.int .i64 a0.points, .slice A_a0_readings a0.readings.length c_a0_readings] Tk24 rfl (H.blk 0 rfl).cells rfl rfl) ?_
    refine LW.go rfl rfl (OW.call Tc34 rfl (level_Best_ok (a0 := a0) (h_a0_readings.ext R0) hr3) ?_)
    rintro _ w4 ⟨A17_0, c17_0, rfl, E3⟩
    refine ⟨_, rfl, ?_⟩
    replace H : Hp w w4 [.own A17_0 c17_0 28 2 (List.map encRat r3.1), .blk b1 24 [.int .i64 a0.points, .slice A_a0_readings a0.readings.length c_a0_readings]] := H.append E3
    replace R0 := H.ext
    refine LW.pure rfl rfl (RV.move rfl) ?_
    refine LW.pure rfl rfl (RV.extract rfl rfl) ?_
    refine LW.pure rfl rfl (RV.extract rfl rfl) ?_
    refine LW.pure rfl rfl (RV.assign rfl) ?_
    refine LW.pure rfl rfl (RV.assign rfl) ?_
    refine LW.nil (hK5 _ _ ?_)
    refine CW.seq fun K6 hK6 => ?_
    obtain ⟨r4, hr4, F⟩ := bnd_some F
    refine CW.region ?_
    refine LW.pure rfl rfl (RV.loadA [.int .i64 a0.points, .slice A_a0_readings a0.readings.length c_a0_readings] Tk24 rfl (H.blk 1 rfl).cells rfl rfl) ?_
    refine LW.go rfl rfl (OW.call Tc35 rfl (ref01_Best_ok (a0 := a0) (h_a0_readings.ext R0) hr4) ?_)
    rintro _ w5 ⟨A19_0, c19_0, rfl, E4⟩
    refine ⟨_, rfl, ?_⟩
    replace H : Hp w w5 [.own A19_0 c19_0 28 2 (List.map encRat r4.1), .own A17_0 c17_0 28 2 (List.map encRat r3.1), .blk b1 24 [.int .i64 a0.points, .slice A_a0_readings a0.readings.length c_a0_readings]] := H.append E4
    replace R0 := H.ext
    refine LW.pure rfl rfl (RV.move rfl) ?_
    refine LW.pure rfl rfl (RV.extract rfl rfl) ?_
    refine LW.pure rfl rfl (RV.extract rfl rfl) ?_
    refine LW.pure rfl rfl (RV.assign rfl) ?_
    refine LW.pure rfl rfl (RV.assign rfl) ?_
    refine LW.nil (hK6 _ _ ?_)
    refine CW.seq fun K7 hK7 => ?_
    obtain ⟨r5, hr5, F⟩ := bnd_some F
    refine CW.region ?_
    refine LW.pure rfl rfl (RV.loadA [.int .i64 a0.points, .slice A_a0_readings a0.readings.length c_a0_readings] Tk24 rfl (H.blk 2 rfl).cells rfl rfl) ?_
    refine LW.go rfl rfl (OW.call Tc36 rfl (level_Residuals_ok (a0 := a0) (h_a0_readings.ext R0) hr5) ?_)
    rintro _ w6 ⟨A21_0, c21_0, rfl, E5⟩
    refine ⟨_, rfl, ?_⟩
    replace H : Hp w w6 [.own A21_0 c21_0 28 2 (List.map encRat r5.1), .own A19_0 c19_0 28 2 (List.map encRat r4.1), .own A17_0 c17_0 28 2 (List.map encRat r3.1), .blk b1 24 [.int .i64 a0.points, .slice A_a0_readings a0.readings.length c_a0_readings]] := H.append E5
    replace R0 := H.ext
    refine LW.pure rfl rfl (RV.move rfl) ?_
    refine LW.pure rfl rfl (RV.extract rfl rfl) ?_
    refine LW.pure rfl rfl (RV.extract rfl rfl) ?_
    refine LW.pure rfl rfl (RV.assign rfl) ?_
    refine LW.pure rfl rfl (RV.assign rfl) ?_
    refine LW.nil (hK7 _ _ ?_)
    refine CW.seq fun K8 hK8 => ?_
    obtain ⟨r6, hr6, F⟩ := bnd_some F
    refine CW.region ?_
    refine LW.pure rfl rfl (RV.loadA [.int .i64 a0.points, .slice A_a0_readings a0.readings.length c_a0_readings] Tk24 rfl (H.blk 3 rfl).cells rfl rfl) ?_
    refine LW.go rfl rfl (OW.call Tc37 rfl (ref01_Residuals_ok (a0 := a0) (h_a0_readings.ext R0) hr6) ?_)
    rintro _ w7 ⟨A23_0, c23_0, rfl, E6⟩
    refine ⟨_, rfl, ?_⟩
    replace H : Hp w w7 [.own A23_0 c23_0 28 2 (List.map encRat r6.1), .own A21_0 c21_0 28 2 (List.map encRat r5.1), .own A19_0 c19_0 28 2 (List.map encRat r4.1), .own A17_0 c17_0 28 2 (List.map encRat r3.1), .blk b1 24 [.int .i64 a0.points, .slice A_a0_readings a0.readings.length c_a0_readings]] := H.append E6
    replace R0 := H.ext
    refine LW.pure rfl rfl (RV.move rfl) ?_
    refine LW.pure rfl rfl (RV.extract rfl rfl) ?_
    refine LW.pure rfl rfl (RV.extract rfl rfl) ?_
    refine LW.pure rfl rfl (RV.assign rfl) ?_
    refine LW.pure rfl rfl (RV.assign rfl) ?_
    refine LW.nil (hK8 _ _ ?_)
    refine CW.seq fun K9 hK9 => ?_
    obtain ⟨r7, hr7, F⟩ := bnd_some F
    refine CW.region ?_
    refine LW.pure rfl rfl (RV.loadA [.int .i64 a0.points, .slice A_a0_readings a0.readings.length c_a0_readings] Tk24 rfl (H.blk 4 rfl).cells rfl rfl) ?_
    refine LW.go rfl rfl (OW.call Tc38 rfl (level_Misfit_ok (a0 := a0) (h_a0_readings.ext R0) hr7) ?_)
    rintro _ w8 ⟨rfl, E7⟩
    refine ⟨_, rfl, ?_⟩
    replace H := H.grow E7
    replace R0 := H.ext
    refine LW.pure rfl rfl (RV.move rfl) ?_
    refine LW.pure rfl rfl (RV.extract rfl rfl) ?_
    refine LW.pure rfl rfl (RV.extract rfl rfl) ?_
    refine LW.go rfl rfl (OW.alloc Tz28 fun b2 w9 N2 => ?_)
    replace H := H.new N2 N2.blk
    replace R0 := H.ext
    refine LW.go rfl rfl (OW.store Tk28 rfl rfl (H.blk 0 rfl) (off := 0) (vs := [.int .i64 r7.1.num, .int .i64 r7.1.den]) rfl rfl rfl rfl rfl fun w10 S1 => ?_)
    replace H : Hp w w10 [.blk b2 28 [.int .i64 r7.1.num, .int .i64 r7.1.den], .own A23_0 c23_0 28 2 (List.map encRat r6.1), .own A21_0 c21_0 28 2 (List.map encRat r5.1), .own A19_0 c19_0 28 2 (List.map encRat r4.1), .own A17_0 c17_0 28 2 (List.map encRat r3.1), .blk b1 24 [.int .i64 a0.points, .slice A_a0_readings a0.readings.length c_a0_readings]] := H.stored 0 rfl S1
    replace R0 := H.ext
    refine LW.pure rfl rfl (RV.assign rfl) ?_
    refine LW.nil (hK9 _ _ ?_)
    refine CW.seq fun K10 hK10 => ?_
    obtain ⟨r8, hr8, F⟩ := bnd_some F
    refine CW.region ?_
    refine LW.pure rfl rfl (RV.loadA [.int .i64 a0.points, .slice A_a0_readings a0.readings.length c_a0_readings] Tk24 rfl (H.blk 5 rfl).cells rfl rfl) ?_
    refine LW.go rfl rfl (OW.call Tc39 rfl (ref01_Misfit_ok (a0 := a0) (h_a0_readings.ext R0) hr8) ?_)
    rintro _ w11 ⟨rfl, E8⟩
    refine ⟨_, rfl, ?_⟩
    replace H := H.grow E8
    replace R0 := H.ext
    refine LW.pure rfl rfl (RV.move rfl) ?_
    refine LW.pure rfl rfl (RV.extract rfl rfl) ?_
    refine LW.pure rfl rfl (RV.extract rfl rfl) ?_
    refine LW.go rfl rfl (OW.alloc Tz28 fun b3 w12 N3 => ?_)
    replace H := H.new N3 N3.blk
    replace R0 := H.ext
    refine LW.go rfl rfl (OW.store Tk28 rfl rfl (H.blk 0 rfl) (off := 0) (vs := [.int .i64 r8.1.num, .int .i64 r8.1.den]) rfl rfl rfl rfl rfl fun w13 S2 => ?_)
    replace H : Hp w w13 [.blk b3 28 [.int .i64 r8.1.num, .int .i64 r8.1.den], .blk b2 28 [.int .i64 r7.1.num, .int .i64 r7.1.den], .own A23_0 c23_0 28 2 (List.map encRat r6.1), .own A21_0 c21_0 28 2 (List.map encRat r5.1), .own A19_0 c19_0 28 2 (List.map encRat r4.1), .own A17_0 c17_0 28 2 (List.map encRat r3.1), .blk b1 24 [.int .i64 a0.points, .slice A_a0_readings a0.readings.length c_a0_readings]] := H.stored 0 rfl S2
    replace R0 := H.ext
    refine LW.pure rfl rfl (RV.assign rfl) ?_
    refine LW.nil (hK10 _ _ ?_)
    refine CW.seq fun K11 hK11 => ?_
    obtain ⟨r9, hr9, F⟩ := bnd_some F
    by_cases hp2 : r9 = true
    ·
      replace F := ite_y hp2 F
      have hq2 : r9 = true := hp2
      by_cases hp3 : r3.2 = r4.2
      ·
        replace F := ite_y hp3 F
        have hq3 := dec_t hp3
        obtain ⟨r10, hr10, F⟩ := bnd_some F
        by_cases hp4 : r10 = true
        ·
          replace F := ite_y hp4 F
          have hq4 : r10 = true := hp4
          by_cases hp5 : r5.2 = r6.2
          ·
            replace F := ite_y hp5 F
            have hq5 := dec_t hp5
            by_cases hp6 : ((r7.1.num == r8.1.num) && (r7.1.den == r8.1.den)) = true
            ·
              replace F := ite_y hp6 F
              have hq6 : ((r7.1.num == r8.1.num) && (r7.1.den == r8.1.den)) = true := hp6
              by_cases hp7 : r7.2 = r8.2
              ·
                replace F := ite_y hp7 F
                have hq7 := dec_t hp7
                obtain ⟨r11, hr11, F⟩ := bnd_some F
                refine CW.region ?_
                refine LW.pure rfl rfl (RV.move rfl) ?_
                refine LW.pure rfl rfl (RV.move rfl) ?_
                refine LW.go rfl rfl (OW.call Tc40 rfl (ref01_SameRats_ok (a0 := r3.1) (a1 := r4.1) (H.own 5 rfl).sl (H.own 4 rfl).sl hr9) ?_)
                rintro _ w14 ⟨rfl, E9⟩
                refine ⟨_, rfl, ?_⟩
                replace H := H.grow E9
                replace R0 := H.ext
                refine LW.pure rfl rfl (RV.move rfl) ?_
                refine LW.pureYB rfl rfl rfl rfl hq2 (RV.move rfl) ?_
                refine LW.pureYB rfl rfl rfl rfl hq2 (RV.move rfl) ?_
                refine LW.pureYB rfl rfl rfl rfl hq2 (RV.eqi rfl rfl) ?_
                refine LW.pure rfl rfl (RV.pickTB rfl hq2 rfl) ?_
                refine LW.pure rfl rfl (RV.move rfl) ?_
                refine LW.pureYB rfl rfl rfl rfl hq3 (RV.move rfl) ?_
                refine LW.pureYB rfl rfl rfl rfl hq3 (RV.move rfl) ?_
                refine LW.yesB rfl rfl rfl rfl hq3 (OW.call Tc40 rfl (ref01_SameRats_ok (a0 := r5.1) (a1 := r6.1) (H.own 3 rfl).sl (H.own 2 rfl).sl hr10) ?_)
                rintro _ w15 ⟨rfl, E10⟩
                refine ⟨_, rfl, ?_⟩
                replace H := H.grow E10
                replace R0 := H.ext
                refine LW.pure rfl rfl (RV.pickTB rfl hq3 rfl) ?_
                refine LW.pure rfl rfl (RV.move rfl) ?_
                refine LW.pureYB rfl rfl rfl rfl hq4 (RV.move rfl) ?_
                refine LW.pureYB rfl rfl rfl rfl hq4 (RV.move rfl) ?_
                refine LW.pureYB rfl rfl rfl rfl hq4 (RV.eqi rfl rfl) ?_
                refine LW.pure rfl rfl (RV.pickTB rfl hq4 rfl) ?_
                refine LW.pure rfl rfl (RV.move rfl) ?_
                refine LW.pureYB rfl rfl rfl rfl hq5 (RV.loadA [.int .i64 r7.1.num, .int .i64 r7.1.den] Tk28 rfl (H.blk 1 rfl).cells rfl rfl) ?_
                refine LW.pureYB rfl rfl rfl rfl hq5 (RV.loadA [.int .i64 r8.1.num, .int .i64 r8.1.den] Tk28 rfl (H.blk 0 rfl).cells rfl rfl) ?_
                refine LW.pureYB rfl rfl rfl rfl hq5 (RV.eqA Te28g (Te28 _ _ _ _ ) rfl rfl) ?_
                refine LW.pure rfl rfl (RV.pickTB rfl hq5 rfl) ?_
                refine LW.pure rfl rfl (RV.move rfl) ?_
                refine LW.pureYB rfl rfl rfl rfl hq6 (RV.move rfl) ?_
                refine LW.pureYB rfl rfl rfl rfl hq6 (RV.move rfl) ?_
                refine LW.pureYB rfl rfl rfl rfl hq6 (RV.eqi rfl rfl) ?_
                refine LW.pure rfl rfl (RV.pickTB rfl hq6 rfl) ?_
                refine LW.pure rfl rfl (RV.move rfl) ?_
                refine LW.yesB rfl rfl rfl rfl hq7 (OW.call Tc18 rfl (law01_known_ok hr11) ?_)
                rintro _ w16 ⟨rfl, E11⟩
                refine ⟨_, rfl, ?_⟩
                replace H := H.grow E11
                replace R0 := H.ext
                refine LW.pure rfl rfl (RV.pickTB rfl hq7 rfl) ?_
                refine LW.pure rfl rfl (RV.assign rfl) ?_
                refine LW.nil (hK11 _ _ ?_)
                refine CW.ret ?_
                obtain rfl := Option.some.inj F
                refine ⟨_, (ResOK.one rfl), ?_⟩
                refine ⟨(by first | rfl | simp), R0⟩
              ·
                replace F := ite_n hp7 F
                have hq7 := dec_f hp7
                refine CW.region ?_
                refine LW.pure rfl rfl (RV.move rfl) ?_
                refine LW.pure rfl rfl (RV.move rfl) ?_
                refine LW.go rfl rfl (OW.call Tc40 rfl (ref01_SameRats_ok (a0 := r3.1) (a1 := r4.1) (H.own 5 rfl).sl (H.own 4 rfl).sl hr9) ?_)
                rintro _ w17 ⟨rfl, E12⟩
                refine ⟨_, rfl, ?_⟩
                replace H := H.grow E12
                replace R0 := H.ext
                refine LW.pure rfl rfl (RV.move rfl) ?_
                refine LW.pureYB rfl rfl rfl rfl hq2 (RV.move rfl) ?_
                refine LW.pureYB rfl rfl rfl rfl hq2 (RV.move rfl) ?_
                refine LW.pureYB rfl rfl rfl rfl hq2 (RV.eqi rfl rfl) ?_
                refine LW.pure rfl rfl (RV.pickTB rfl hq2 rfl) ?_
                refine LW.pure rfl rfl (RV.move rfl) ?_
                refine LW.pureYB rfl rfl rfl rfl hq3 (RV.move rfl) ?_
                refine LW.pureYB rfl rfl rfl rfl hq3 (RV.move rfl) ?_
                refine LW.yesB rfl rfl rfl rfl hq3 (OW.call Tc40 rfl (ref01_SameRats_ok (a0 := r5.1) (a1 := r6.1) (H.own 3 rfl).sl (H.own 2 rfl).sl hr10) ?_)
                rintro _ w18 ⟨rfl, E13⟩
                refine ⟨_, rfl, ?_⟩
                replace H := H.grow E13
                replace R0 := H.ext
                refine LW.pure rfl rfl (RV.pickTB rfl hq3 rfl) ?_
                refine LW.pure rfl rfl (RV.move rfl) ?_
                refine LW.pureYB rfl rfl rfl rfl hq4 (RV.move rfl) ?_
                refine LW.pureYB rfl rfl rfl rfl hq4 (RV.move rfl) ?_
                refine LW.pureYB rfl rfl rfl rfl hq4 (RV.eqi rfl rfl) ?_
                refine LW.pure rfl rfl (RV.pickTB rfl hq4 rfl) ?_
                refine LW.pure rfl rfl (RV.move rfl) ?_
                refine LW.pureYB rfl rfl rfl rfl hq5 (RV.loadA [.int .i64 r7.1.num, .int .i64 r7.1.den] Tk28 rfl (H.blk 1 rfl).cells rfl rfl) ?_
                refine LW.pureYB rfl rfl rfl rfl hq5 (RV.loadA [.int .i64 r8.1.num, .int .i64 r8.1.den] Tk28 rfl (H.blk 0 rfl).cells rfl rfl) ?_
                refine LW.pureYB rfl rfl rfl rfl hq5 (RV.eqA Te28g (Te28 _ _ _ _ ) rfl rfl) ?_
                refine LW.pure rfl rfl (RV.pickTB rfl hq5 rfl) ?_
                refine LW.pure rfl rfl (RV.move rfl) ?_
                refine LW.pureYB rfl rfl rfl rfl hq6 (RV.move rfl) ?_
                refine LW.pureYB rfl rfl rfl rfl hq6 (RV.move rfl) ?_
                refine LW.pureYB rfl rfl rfl rfl hq6 (RV.eqi rfl rfl) ?_
                refine LW.pure rfl rfl (RV.pickTB rfl hq6 rfl) ?_
                refine LW.pure rfl rfl (RV.move rfl) ?_
                refine LW.noB rfl rfl rfl rfl (ne_beq (v := false) hq7 rfl) ?_
                refine LW.pure rfl rfl (RV.pickFB rfl hq7 rfl) ?_
                refine LW.pure rfl rfl (RV.assign rfl) ?_
                refine LW.nil (hK11 _ _ ?_)
                refine CW.ret ?_
                obtain rfl := Option.some.inj F
                refine ⟨_, (ResOK.one rfl), ?_⟩
                refine ⟨(by first | rfl | simp), R0⟩
            ·
              replace F := ite_n hp6 F
              have hq6 : ((r7.1.num == r8.1.num) && (r7.1.den == r8.1.den)) = false := raw_f hp6
              refine CW.region ?_
              refine LW.pure rfl rfl (RV.move rfl) ?_
              refine LW.pure rfl rfl (RV.move rfl) ?_
              refine LW.go rfl rfl (OW.call Tc40 rfl (ref01_SameRats_ok (a0 := r3.1) (a1 := r4.1) (H.own 5 rfl).sl (H.own 4 rfl).sl hr9) ?_)
              rintro _ w19 ⟨rfl, E14⟩
              refine ⟨_, rfl, ?_⟩
              replace H := H.grow E14
              replace R0 := H.ext
              refine LW.pure rfl rfl (RV.move rfl) ?_
              refine LW.pureYB rfl rfl rfl rfl hq2 (RV.move rfl) ?_
              refine LW.pureYB rfl rfl rfl rfl hq2 (RV.move rfl) ?_
              refine LW.pureYB rfl rfl rfl rfl hq2 (RV.eqi rfl rfl) ?_
              refine LW.pure rfl rfl (RV.pickTB rfl hq2 rfl) ?_
              refine LW.pure rfl rfl (RV.move rfl) ?_
              refine LW.pureYB rfl rfl rfl rfl hq3 (RV.move rfl) ?_
              refine LW.pureYB rfl rfl rfl rfl hq3 (RV.move rfl) ?_
              refine LW.yesB rfl rfl rfl rfl hq3 (OW.call Tc40 rfl (ref01_SameRats_ok (a0 := r5.1) (a1 := r6.1) (H.own 3 rfl).sl (H.own 2 rfl).sl hr10) ?_)
              rintro _ w20 ⟨rfl, E15⟩
              refine ⟨_, rfl, ?_⟩
              replace H := H.grow E15
              replace R0 := H.ext
              refine LW.pure rfl rfl (RV.pickTB rfl hq3 rfl) ?_
              refine LW.pure rfl rfl (RV.move rfl) ?_
              refine LW.pureYB rfl rfl rfl rfl hq4 (RV.move rfl) ?_
              refine LW.pureYB rfl rfl rfl rfl hq4 (RV.move rfl) ?_
              refine LW.pureYB rfl rfl rfl rfl hq4 (RV.eqi rfl rfl) ?_
              refine LW.pure rfl rfl (RV.pickTB rfl hq4 rfl) ?_
              refine LW.pure rfl rfl (RV.move rfl) ?_
              refine LW.pureYB rfl rfl rfl rfl hq5 (RV.loadA [.int .i64 r7.1.num, .int .i64 r7.1.den] Tk28 rfl (H.blk 1 rfl).cells rfl rfl) ?_
              refine LW.pureYB rfl rfl rfl rfl hq5 (RV.loadA [.int .i64 r8.1.num, .int .i64 r8.1.den] Tk28 rfl (H.blk 0 rfl).cells rfl rfl) ?_
              refine LW.pureYB rfl rfl rfl rfl hq5 (RV.eqA Te28g (Te28 _ _ _ _ ) rfl rfl) ?_
              refine LW.pure rfl rfl (RV.pickTB rfl hq5 rfl) ?_
              refine LW.pure rfl rfl (RV.move rfl) ?_
              refine LW.noB rfl rfl rfl rfl (ne_beq (v := false) hq6 rfl) ?_
              refine LW.noB rfl rfl rfl rfl (ne_beq (v := false) hq6 rfl) ?_
              refine LW.noB rfl rfl rfl rfl (ne_beq (v := false) hq6 rfl) ?_
              refine LW.pure rfl rfl (RV.pickFB rfl hq6 rfl) ?_
              refine LW.pure rfl rfl (RV.move rfl) ?_
              refine LW.noB rfl rfl rfl rfl (ne_beq (v := false) rfl rfl) ?_
              refine LW.pure rfl rfl (RV.pickFB rfl rfl rfl) ?_
              refine LW.pure rfl rfl (RV.assign rfl) ?_
              refine LW.nil (hK11 _ _ ?_)
              refine CW.ret ?_
              obtain rfl := Option.some.inj F
              refine ⟨_, (ResOK.one rfl), ?_⟩
              refine ⟨(by first | rfl | simp), R0⟩
          ·
            replace F := ite_n hp5 F
            have hq5 := dec_f hp5
            refine CW.region ?_
            refine LW.pure rfl rfl (RV.move rfl) ?_
            refine LW.pure rfl rfl (RV.move rfl) ?_
            refine LW.go rfl rfl (OW.call Tc40 rfl (ref01_SameRats_ok (a0 := r3.1) (a1 := r4.1) (H.own 5 rfl).sl (H.own 4 rfl).sl hr9) ?_)
            rintro _ w21 ⟨rfl, E16⟩
            refine ⟨_, rfl, ?_⟩
            replace H := H.grow E16
            replace R0 := H.ext
            refine LW.pure rfl rfl (RV.move rfl) ?_
            refine LW.pureYB rfl rfl rfl rfl hq2 (RV.move rfl) ?_
            refine LW.pureYB rfl rfl rfl rfl hq2 (RV.move rfl) ?_
            refine LW.pureYB rfl rfl rfl rfl hq2 (RV.eqi rfl rfl) ?_
            refine LW.pure rfl rfl (RV.pickTB rfl hq2 rfl) ?_
            refine LW.pure rfl rfl (RV.move rfl) ?_
            refine LW.pureYB rfl rfl rfl rfl hq3 (RV.move rfl) ?_
            refine LW.pureYB rfl rfl rfl rfl hq3 (RV.move rfl) ?_
            refine LW.yesB rfl rfl rfl rfl hq3 (OW.call Tc40 rfl (ref01_SameRats_ok (a0 := r5.1) (a1 := r6.1) (H.own 3 rfl).sl (H.own 2 rfl).sl hr10) ?_)
            rintro _ w22 ⟨rfl, E17⟩
            refine ⟨_, rfl, ?_⟩
            replace H := H.grow E17
            replace R0 := H.ext
            refine LW.pure rfl rfl (RV.pickTB rfl hq3 rfl) ?_
            refine LW.pure rfl rfl (RV.move rfl) ?_
            refine LW.pureYB rfl rfl rfl rfl hq4 (RV.move rfl) ?_
            refine LW.pureYB rfl rfl rfl rfl hq4 (RV.move rfl) ?_
            refine LW.pureYB rfl rfl rfl rfl hq4 (RV.eqi rfl rfl) ?_
            refine LW.pure rfl rfl (RV.pickTB rfl hq4 rfl) ?_
            refine LW.pure rfl rfl (RV.move rfl) ?_
            refine LW.noB rfl rfl rfl rfl (ne_beq (v := false) hq5 rfl) ?_
            refine LW.noB rfl rfl rfl rfl (ne_beq (v := false) hq5 rfl) ?_
            refine LW.noB rfl rfl rfl rfl (ne_beq (v := false) hq5 rfl) ?_
            refine LW.pure rfl rfl (RV.pickFB rfl hq5 rfl) ?_
            refine LW.pure rfl rfl (RV.move rfl) ?_
            refine LW.noB rfl rfl rfl rfl (ne_beq (v := false) rfl rfl) ?_
            refine LW.noB rfl rfl rfl rfl (ne_beq (v := false) rfl rfl) ?_
            refine LW.noB rfl rfl rfl rfl (ne_beq (v := false) rfl rfl) ?_
            refine LW.pure rfl rfl (RV.pickFB rfl rfl rfl) ?_
            refine LW.pure rfl rfl (RV.move rfl) ?_
            refine LW.noB rfl rfl rfl rfl (ne_beq (v := false) rfl rfl) ?_
            refine LW.pure rfl rfl (RV.pickFB rfl rfl rfl) ?_
            refine LW.pure rfl rfl (RV.assign rfl) ?_
            refine LW.nil (hK11 _ _ ?_)
            refine CW.ret ?_
            obtain rfl := Option.some.inj F
            refine ⟨_, (ResOK.one rfl), ?_⟩
            refine ⟨(by first | rfl | simp), R0⟩
        ·
          replace F := ite_n hp4 F
          have hq4 : r10 = false := raw_f hp4
          refine CW.region ?_
          refine LW.pure rfl rfl (RV.move rfl) ?_
          refine LW.pure rfl rfl (RV.move rfl) ?_
          refine LW.go rfl rfl (OW.call Tc40 rfl (ref01_SameRats_ok (a0 := r3.1) (a1 := r4.1) (H.own 5 rfl).sl (H.own 4 rfl).sl hr9) ?_)
          rintro _ w23 ⟨rfl, E18⟩
          refine ⟨_, rfl, ?_⟩
          replace H := H.grow E18
          replace R0 := H.ext
          refine LW.pure rfl rfl (RV.move rfl) ?_
          refine LW.pureYB rfl rfl rfl rfl hq2 (RV.move rfl) ?_
          refine LW.pureYB rfl rfl rfl rfl hq2 (RV.move rfl) ?_
          refine LW.pureYB rfl rfl rfl rfl hq2 (RV.eqi rfl rfl) ?_
          refine LW.pure rfl rfl (RV.pickTB rfl hq2 rfl) ?_
          refine LW.pure rfl rfl (RV.move rfl) ?_
          refine LW.pureYB rfl rfl rfl rfl hq3 (RV.move rfl) ?_
          refine LW.pureYB rfl rfl rfl rfl hq3 (RV.move rfl) ?_
          refine LW.yesB rfl rfl rfl rfl hq3 (OW.call Tc40 rfl (ref01_SameRats_ok (a0 := r5.1) (a1 := r6.1) (H.own 3 rfl).sl (H.own 2 rfl).sl hr10) ?_)
          rintro _ w24 ⟨rfl, E19⟩
          refine ⟨_, rfl, ?_⟩
          replace H := H.grow E19
          replace R0 := H.ext
          refine LW.pure rfl rfl (RV.pickTB rfl hq3 rfl) ?_
          refine LW.pure rfl rfl (RV.move rfl) ?_
          refine LW.noB rfl rfl rfl rfl (ne_beq (v := false) hq4 rfl) ?_
          refine LW.noB rfl rfl rfl rfl (ne_beq (v := false) hq4 rfl) ?_
          refine LW.noB rfl rfl rfl rfl (ne_beq (v := false) hq4 rfl) ?_
          refine LW.pure rfl rfl (RV.pickFB rfl hq4 rfl) ?_
          refine LW.pure rfl rfl (RV.move rfl) ?_
          refine LW.noB rfl rfl rfl rfl (ne_beq (v := false) rfl rfl) ?_
          refine LW.noB rfl rfl rfl rfl (ne_beq (v := false) rfl rfl) ?_
          refine LW.noB rfl rfl rfl rfl (ne_beq (v := false) rfl rfl) ?_
          refine LW.pure rfl rfl (RV.pickFB rfl rfl rfl) ?_
          refine LW.pure rfl rfl (RV.move rfl) ?_
          refine LW.noB rfl rfl rfl rfl (ne_beq (v := false) rfl rfl) ?_
          refine LW.noB rfl rfl rfl rfl (ne_beq (v := false) rfl rfl) ?_
          refine LW.noB rfl rfl rfl rfl (ne_beq (v := false) rfl rfl) ?_
          refine LW.pure rfl rfl (RV.pickFB rfl rfl rfl) ?_
          refine LW.pure rfl rfl (RV.move rfl) ?_
          refine LW.noB rfl rfl rfl rfl (ne_beq (v := false) rfl rfl) ?_
          refine LW.pure rfl rfl (RV.pickFB rfl rfl rfl) ?_
          refine LW.pure rfl rfl (RV.assign rfl) ?_
          refine LW.nil (hK11 _ _ ?_)
          refine CW.ret ?_
          obtain rfl := Option.some.inj F
          refine ⟨_, (ResOK.one rfl), ?_⟩
          refine ⟨(by first | rfl | simp), R0⟩
      ·
        replace F := ite_n hp3 F
        have hq3 := dec_f hp3
        refine CW.region ?_
        refine LW.pure rfl rfl (RV.move rfl) ?_
        refine LW.pure rfl rfl (RV.move rfl) ?_
        refine LW.go rfl rfl (OW.call Tc40 rfl (ref01_SameRats_ok (a0 := r3.1) (a1 := r4.1) (H.own 5 rfl).sl (H.own 4 rfl).sl hr9) ?_)
        rintro _ w25 ⟨rfl, E20⟩
        refine ⟨_, rfl, ?_⟩
        replace H := H.grow E20
        replace R0 := H.ext
        refine LW.pure rfl rfl (RV.move rfl) ?_
        refine LW.pureYB rfl rfl rfl rfl hq2 (RV.move rfl) ?_
        refine LW.pureYB rfl rfl rfl rfl hq2 (RV.move rfl) ?_
        refine LW.pureYB rfl rfl rfl rfl hq2 (RV.eqi rfl rfl) ?_
        refine LW.pure rfl rfl (RV.pickTB rfl hq2 rfl) ?_
        refine LW.pure rfl rfl (RV.move rfl) ?_
        refine LW.noB rfl rfl rfl rfl (ne_beq (v := false) hq3 rfl) ?_
        refine LW.noB rfl rfl rfl rfl (ne_beq (v := false) hq3 rfl) ?_
        refine LW.noB rfl rfl rfl rfl (ne_beq (v := false) hq3 rfl) ?_
        refine LW.pure rfl rfl (RV.pickFB rfl hq3 rfl) ?_
        refine LW.pure rfl rfl (RV.move rfl) ?_
        refine LW.noB rfl rfl rfl rfl (ne_beq (v := false) rfl rfl) ?_
        refine LW.noB rfl rfl rfl rfl (ne_beq (v := false) rfl rfl) ?_
        refine LW.noB rfl rfl rfl rfl (ne_beq (v := false) rfl rfl) ?_
        refine LW.pure rfl rfl (RV.pickFB rfl rfl rfl) ?_
        refine LW.pure rfl rfl (RV.move rfl) ?_
        refine LW.noB rfl rfl rfl rfl (ne_beq (v := false) rfl rfl) ?_
        refine LW.noB rfl rfl rfl rfl (ne_beq (v := false) rfl rfl) ?_
        refine LW.noB rfl rfl rfl rfl (ne_beq (v := false) rfl rfl) ?_
        refine LW.pure rfl rfl (RV.pickFB rfl rfl rfl) ?_
        refine LW.pure rfl rfl (RV.move rfl) ?_
        refine LW.noB rfl rfl rfl rfl (ne_beq (v := false) rfl rfl) ?_
        refine LW.noB rfl rfl rfl rfl (ne_beq (v := false) rfl rfl) ?_
        refine LW.noB rfl rfl rfl rfl (ne_beq (v := false) rfl rfl) ?_
        refine LW.pure rfl rfl (RV.pickFB rfl rfl rfl) ?_
        refine LW.pure rfl rfl (RV.move rfl) ?_
        refine LW.noB rfl rfl rfl rfl (ne_beq (v := false) rfl rfl) ?_
        refine LW.pure rfl rfl (RV.pickFB rfl rfl rfl) ?_
        refine LW.pure rfl rfl (RV.assign rfl) ?_
        refine LW.nil (hK11 _ _ ?_)
        refine CW.ret ?_
        obtain rfl := Option.some.inj F
        refine ⟨_, (ResOK.one rfl), ?_⟩
        refine ⟨(by first | rfl | simp), R0⟩
    ·
      replace F := ite_n hp2 F
      have hq2 : r9 = false := raw_f hp2
      refine CW.region ?_
      refine LW.pure rfl rfl (RV.move rfl) ?_
      refine LW.pure rfl rfl (RV.move rfl) ?_
      refine LW.go rfl rfl (OW.call Tc40 rfl (ref01_SameRats_ok (a0 := r3.1) (a1 := r4.1) (H.own 5 rfl).sl (H.own 4 rfl).sl hr9) ?_)
      rintro _ w26 ⟨rfl, E21⟩
      refine ⟨_, rfl, ?_⟩
      replace H := H.grow E21
      replace R0 := H.ext
      refine LW.pure rfl rfl (RV.move rfl) ?_
      refine LW.noB rfl rfl rfl rfl (ne_beq (v := false) hq2 rfl) ?_
      refine LW.noB rfl rfl rfl rfl (ne_beq (v := false) hq2 rfl) ?_
      refine LW.noB rfl rfl rfl rfl (ne_beq (v := false) hq2 rfl) ?_
      refine LW.pure rfl rfl (RV.pickFB rfl hq2 rfl) ?_
      refine LW.pure rfl rfl (RV.move rfl) ?_
      refine LW.noB rfl rfl rfl rfl (ne_beq (v := false) rfl rfl) ?_
      refine LW.noB rfl rfl rfl rfl (ne_beq (v := false) rfl rfl) ?_
      refine LW.noB rfl rfl rfl rfl (ne_beq (v := false) rfl rfl) ?_
      refine LW.pure rfl rfl (RV.pickFB rfl rfl rfl) ?_
      refine LW.pure rfl rfl (RV.move rfl) ?_
      refine LW.noB rfl rfl rfl rfl (ne_beq (v := false) rfl rfl) ?_
      refine LW.noB rfl rfl rfl rfl (ne_beq (v := false) rfl rfl) ?_
      refine LW.noB rfl rfl rfl rfl (ne_beq (v := false) rfl rfl) ?_
      refine LW.pure rfl rfl (RV.pickFB rfl rfl rfl) ?_
      refine LW.pure rfl rfl (RV.move rfl) ?_
      refine LW.noB rfl rfl rfl rfl (ne_beq (v := false) rfl rfl) ?_
      refine LW.noB rfl rfl rfl rfl (ne_beq (v := false) rfl rfl) ?_
      refine LW.noB rfl rfl rfl rfl (ne_beq (v := false) rfl rfl) ?_
      refine LW.pure rfl rfl (RV.pickFB rfl rfl rfl) ?_
      refine LW.pure rfl rfl (RV.move rfl) ?_
      refine LW.noB rfl rfl rfl rfl (ne_beq (v := false) rfl rfl) ?_
      refine LW.noB rfl rfl rfl rfl (ne_beq (v := false) rfl rfl) ?_
      refine LW.noB rfl rfl rfl rfl (ne_beq (v := false) rfl rfl) ?_
      refine LW.pure rfl rfl (RV.pickFB rfl rfl rfl) ?_
      refine LW.pure rfl rfl (RV.move rfl) ?_
      refine LW.noB rfl rfl rfl rfl (ne_beq (v := false) rfl rfl) ?_
      refine LW.pure rfl rfl (RV.pickFB rfl rfl rfl) ?_
      refine LW.pure rfl rfl (RV.assign rfl) ?_
      refine LW.nil (hK11 _ _ ?_)
      refine CW.ret ?_
      obtain rfl := Option.some.inj F
      refine ⟨_, (ResOK.one rfl), ?_⟩
      refine ⟨(by first | rfl | simp), R0⟩
end Go.D1

namespace Go.Tb
/-- A loop over 0 .. N - 1 with a state, that is left at the first i for which p does not hold. -/
theorem scan_loop {S R : Type} (N : Nat) (p : Nat → Bool) (g : Nat → S) (L : Nat → S → Int → Option R) (yes : Option R) (no : Nat → Option R)
    (step : ∀ n i : Nat, i < N → L (n + 1) (g i) (i : Int) = if p i = true then L n (g (i + 1)) ((i + 1 : Nat) : Int) else no i)
    (stop : ∀ n : Nat, L (n + 1) (g N) (N : Int) = yes) : ∀ (d n i : Nat), N = i + d → d < n → L n (g i) (i : Int) = match (List.range' i d).find? (fun j => !p j) with | none => yes | some j => no j
  | 0, n + 1, i, hd, hn => by
    have hi : i = N := by omega
    subst hi
    rw [stop n]; rfl
  | d + 1, n + 1, i, hd, hn => by
    rw [step n i (by omega), List.range'_succ, List.find?_cons]
    cases hp : p i
    · simp
    · simp only [if_true, Bool.not_true]
      exact scan_loop N p g L yes no step stop d n (i + 1) (by omega) (by omega)
theorem find_all {p : Nat → Bool} {i d : Nat} : (List.range' i d).find? (fun j => !p j) = none ↔ ∀ j, i ≤ j → j < i + d → p j = true := by
  rw [List.find?_eq_none]
  constructor
  · intro h j h1 h2
    have := h j (by rw [List.mem_range'_1]; omega)
    simpa using this
  · intro h x hx
    rw [List.mem_range'_1] at hx
    simp [h x hx.1 hx.2]
/-- A loop over 0 .. N - 1 with a state and no way out. -/
theorem for_loop {S R : Type} (N : Nat) (g : Nat → S) (L : Nat → S → Int → Option R) (yes : Option R)
    (step : ∀ n i : Nat, i < N → L (n + 1) (g i) (i : Int) = L n (g (i + 1)) ((i + 1 : Nat) : Int))
    (stop : ∀ n : Nat, L (n + 1) (g N) (N : Int) = yes) : ∀ (d n i : Nat), N = i + d → d < n → L n (g i) (i : Int) = yes
  | 0, n + 1, i, hd, hn => by
    have hi : i = N := by omega
    subst hi
    exact stop n
  | d + 1, n + 1, i, hd, hn => by
    rw [step n i (by omega)]
    exact for_loop N g L yes step stop d n (i + 1) (by omega) (by omega)
theorem for_loop0 {S R : Type} (N : Nat) (g : Nat → S) (L : Nat → S → Int → Option R) (yes : Option R)
    (step : ∀ n i : Nat, i < N → L (n + 1) (g i) (i : Int) = L n (g (i + 1)) ((i + 1 : Nat) : Int))
    (stop : ∀ n : Nat, L (n + 1) (g N) (N : Int) = yes) (hN : N ≤ 9223372036854775807) : L FU (g 0) 0 = yes :=
  for_loop N g L yes step stop N FU 0 (by omega) (by have := FU_pos; omega)
theorem scan_loop0 {S R : Type} (N : Nat) (p : Nat → Bool) (g : Nat → S) (L : Nat → S → Int → Option R) (yes no : Option R)
    (step : ∀ n i : Nat, i < N → L (n + 1) (g i) (i : Int) = if p i = true then L n (g (i + 1)) ((i + 1 : Nat) : Int) else no)
    (stop : ∀ n : Nat, L (n + 1) (g N) (N : Int) = yes) (hN : N ≤ 9223372036854775807) : L FU (g 0) 0 = if (∀ j, j < N → p j = true) then yes else no := by
  have h := scan_loop N p g L yes (fun _ => no) step stop N FU 0 (by omega) (by have := FU_pos; omega)
  refine Eq.trans h ?_
  cases hf : (List.range' 0 N).find? (fun j => !p j) with
  | none => rw [if_pos (fun j hj => find_all.1 hf j (by omega) (by omega))]
  | some j =>
    have h1 := List.find?_some hf
    have h2 := List.mem_of_find?_eq_some hf
    rw [List.mem_range'_1] at h2
    rw [if_neg]
    intro hall
    have := hall j (by omega)
    simp [this] at h1
/-- The same over the elements of a list. -/
theorem list_loop0 {α R : Type} (l : List α) (p : α → Bool) (L : Nat → Int → Option R) (yes no : Option R)
    (step : ∀ (n i : Nat) (x : α), l[i]? = some x → L (n + 1) (i : Int) = if p x = true then L n ((i + 1 : Nat) : Int) else no)
    (stop : ∀ n : Nat, L (n + 1) (l.length : Int) = yes) (hl : l.length ≤ 9223372036854775807) : L FU 0 = if l.all p = true then yes else no := by
  have h := scan_loop0 l.length (fun i => (l[i]?.map p).getD true) (fun _ => ()) (fun n _ i => L n i) yes no (fun n i hi => by
    have hx : l[i]? = some l[i] := by simp [hi]
    rw [step n i _ hx]; simp [hx]) stop hl
  refine Eq.trans h ?_
  by_cases ha : l.all p = true
  · rw [if_pos ha, if_pos]
    intro j hj
    have := List.all_eq_true.1 ha l[j] (List.getElem_mem hj)
    simp [hj, this]
  · rw [if_neg ha, if_neg]
    intro hc
    refine ha (List.all_eq_true.2 fun x hx => ?_)
    obtain ⟨j, hj⟩ := List.getElem?_of_mem hx
    have := hc j (lt_of_at hj)
    simpa [hj] using this
end Go.Tb

set_option linter.unusedVariables false
set_option linter.unusedSimpArgs false
namespace Go.D1
open Go.Tb
theorem known_eq : law01_known = some true := by decide +kernel
theorem ix0 {α β : Type} {l : List α} {k : α → Option β} {x : α} (h : l[0]? = some x) : ix l 0 k = k x := ix_nat (i := 0) h
theorem for0 {S R : Type} (N : Nat) (g : Nat → S) (L : Nat → S → Int → Option R) (yes : Option R) {s0 : S} (h0 : g 0 = s0)
    (step : ∀ n i : Nat, i < N → L (n + 1) (g i) (i : Int) = L n (g (i + 1)) ((i + 1 : Nat) : Int))
    (stop : ∀ n : Nat, L (n + 1) (g N) (N : Int) = yes) (hN : N ≤ 9223372036854775807) : L FU s0 0 = yes := by
  rw [← h0]; exact for_loop0 N g L yes step stop hN
def gi (l : List Int) (i : Nat) : Int := l.getD i 0
theorem gi_at {l : List Int} {i : Nat} (h : i < l.length) : l[i]? = some (gi l i) := by simp [gi, List.getD, h]
theorem gi_of {l : List Int} {i : Nat} {x : Int} (h : l[i]? = some x) : gi l i = x := by simp [gi, List.getD, h]
theorem gi_set {l : List Int} {i j : Nat} {x : Int} : gi (l.set i x) j = if i = j ∧ j < l.length then x else gi l j := by
  unfold gi
  simp only [List.getD_eq_getElem?_getD, List.getElem?_set]
  by_cases h : i = j
  · subst h
    by_cases h2 : i < l.length
    · simp [h2]
    · simp [h2]
  · simp [h]
theorem gi_ext {l l' : List Int} (hl : l.length = l'.length) (h : ∀ j, j < l.length → gi l j = gi l' j) : l = l' := by
  apply List.ext_getElem?
  intro j
  by_cases hj : j < l.length
  · rw [gi_at hj, gi_at (by omega), h j hj]
  · rw [List.getElem?_eq_none (by omega), List.getElem?_eq_none (by omega)]
def within (n lo hi : Int) : Bool := decide (lo ≤ n) && decide (n ≤ hi)
theorem within_iff {n lo hi : Int} : within n lo hi = true ↔ lo ≤ n ∧ n ≤ hi := by unfold within; simp
theorem lwithin_eq (n lo hi : Int) : level_within n lo hi = some (within n lo hi) := by
  unfold level_within within
  by_cases h : lo ≤ n <;> simp [h]
theorem rwithin_eq (n lo hi : Int) : ref01_within n lo hi = some (within n lo hi) := by
  unfold ref01_within within
  by_cases h : lo ≤ n <;> simp [h]
def okR (s : Survey) (r : Reading) : Bool := within r.from_ 0 (s.points - 1) && within r.to_ 0 (s.points - 1) && !decide (r.from_ = r.to_) && within r.rise (-1000) 1000 && within r.weight 1 3
def validate (s : Survey) : Int := if within s.points 1 5 = true then (if 8 < s.readings.length then 3 else if s.readings.all (okR s) = true then 0 else 1) else 1
theorem Validate_eq (s : Survey) : level_Validate s = some (validate s) := by
  unfold level_Validate validate
  rw [bnd_eq (lwithin_eq _ _ _)]
  by_cases hp : within s.points 1 5 = true
  · have hw := within_iff.1 hp
    rw [if_pos hp, if_pos hp]
    by_cases h8 : 8 < s.readings.length
    · rw [if_pos (by omega), if_pos h8]
    · rw [if_neg (by omega), if_neg h8]
      refine Eq.trans (list_loop0 s.readings (okR s) (level_Validate_L1 s) (some 0) (some 1) (fun k i x hx => ?_) (fun k => ?_) (by omega)) (by split <;> rfl)
      · have := lt_of_at hx
        show level_Validate_B1 s (level_Validate_L1 s k) _ = _
        unfold level_Validate_B1 okR level_Validate_k2
        rw [if_pos (by omega), ix_nat hx, gd_pos (by omega), bnd_eq (lwithin_eq _ _ _)]
        cases h1 : within x.from_ 0 (s.points - 1)
        · rw [if_neg (by simp), if_pos rfl]; rfl
        · rw [if_pos rfl, gd_pos (by omega), bnd_eq (lwithin_eq _ _ _)]
          cases h2 : within x.to_ 0 (s.points - 1)
          · rw [if_neg (by simp), if_pos rfl]; rfl
          · rw [if_pos rfl]
            by_cases h3 : x.from_ = x.to_
            · rw [if_pos h3, if_pos rfl, decide_eq_true h3]; rfl
            · rw [if_neg h3, decide_eq_false h3, bnd_eq (lwithin_eq _ _ _)]
              cases h4 : within x.rise (-1000) 1000
              · rw [if_neg (by simp), if_pos rfl]; rfl
              · rw [if_pos rfl, bnd_eq (lwithin_eq _ _ _)]
                cases h5 : within x.weight 1 3
                · rw [if_pos (by rfl)]; rfl
                · rw [if_neg (by simp), gd_pos (by omega)]; rfl
      · show level_Validate_B1 s (level_Validate_L1 s k) _ = _
        unfold level_Validate_B1
        rw [if_neg (by omega)]; rfl
  · rw [if_neg hp, if_neg hp]
theorem rValidate_eq (s : Survey) : ref01_Validate s = some (validate s) := by
  unfold ref01_Validate validate
  rw [bnd_eq (rwithin_eq _ _ _)]
  by_cases hp : within s.points 1 5 = true
  · have hw := within_iff.1 hp
    rw [if_pos hp, if_pos hp]
    by_cases h8 : 8 < s.readings.length
    · rw [if_pos (by omega), if_pos h8]
    · rw [if_neg (by omega), if_neg h8]
      refine Eq.trans (list_loop0 s.readings (okR s) (ref01_Validate_L1 s) (some 0) (some 1) (fun k i x hx => ?_) (fun k => ?_) (by omega)) (by split <;> rfl)
      · have := lt_of_at hx
        show ref01_Validate_B1 s (ref01_Validate_L1 s k) _ = _
        unfold ref01_Validate_B1 okR ref01_Validate_k2
        rw [if_pos (by omega), ix_nat hx, gd_pos (by omega), bnd_eq (rwithin_eq _ _ _)]
        cases h1 : within x.from_ 0 (s.points - 1)
        · rw [if_neg (by simp), if_pos rfl]; rfl
        · rw [if_pos rfl, gd_pos (by omega), bnd_eq (rwithin_eq _ _ _)]
          cases h2 : within x.to_ 0 (s.points - 1)
          · rw [if_neg (by simp), if_pos rfl]; rfl
          · rw [if_pos rfl]
            by_cases h3 : x.from_ = x.to_
            · rw [if_pos h3, if_pos rfl, decide_eq_true h3]; rfl
            · rw [if_neg h3, decide_eq_false h3, bnd_eq (rwithin_eq _ _ _)]
              cases h4 : within x.rise (-1000) 1000
              · rw [if_neg (by simp), if_pos rfl]; rfl
              · rw [if_pos rfl, bnd_eq (rwithin_eq _ _ _)]
                cases h5 : within x.weight 1 3
                · rw [if_pos (by rfl)]; rfl
                · rw [if_neg (by simp), gd_pos (by omega)]; rfl
      · show ref01_Validate_B1 s (ref01_Validate_L1 s k) _ = _
        unfold ref01_Validate_B1
        rw [if_neg (by omega)]; rfl
  · rw [if_neg hp, if_neg hp]
structure SvOk (s : Survey) : Prop where
  p1 : 1 ≤ s.points
  p5 : s.points ≤ 5
  len : s.readings.length ≤ 8
  rd : ∀ r ∈ s.readings, (0 ≤ r.from_ ∧ r.from_ < s.points) ∧ (0 ≤ r.to_ ∧ r.to_ < s.points) ∧ r.from_ ≠ r.to_ ∧ (-1000 ≤ r.rise ∧ r.rise ≤ 1000) ∧ (1 ≤ r.weight ∧ r.weight ≤ 3)
theorem val0 {s : Survey} : validate s = 0 ↔ SvOk s := by
  unfold validate
  constructor
  · intro h
    split at h
    · rename_i hp
      have hw := within_iff.1 hp
      split at h
      · omega
      · split at h
        · rename_i hall
          refine ⟨hw.1, hw.2, by omega, fun r hr => ?_⟩
          have := List.all_eq_true.1 hall r hr
          unfold okR at this
          simp only [Bool.and_eq_true, within_iff, Bool.not_eq_true', decide_eq_false_iff_not] at this
          omega
        · omega
    · omega
  · intro h
    rw [if_pos (within_iff.2 ⟨h.p1, h.p5⟩), if_neg (by have := h.len; omega), if_pos]
    rw [List.all_eq_true]
    intro r hr
    have := h.rd r hr
    unfold okR
    simp only [Bool.and_eq_true, within_iff, Bool.not_eq_true', decide_eq_false_iff_not]
    omega
theorem Long_eq (s : Survey) : law01_Long s = some (decide ((100 : Int) < (s.readings.length : Int))) := rfl
end Go.D1
