/- Lemmas and walks that the proof of this claim uses: D3s9, D3t1, D3t2, D3t3. -/
import Derived.Test.YtmjadkjcbaohbaaCorePlains5
set_option linter.unusedVariables false
set_option linter.unusedSimpArgs false
namespace Go.D3
open Go.Tb Go.Proofs Go.RowKit Go.Core
theorem Tc47 : callable Try.prog 47 = true := by kernel_rfl
theorem Tc48 : callable Try.prog 48 = true := by kernel_rfl
theorem Tc49 : callable Try.prog 49 = true := by kernel_rfl
theorem Tc50 : callable Try.prog 50 = true := by kernel_rfl
theorem Tc51 : callable Try.prog 51 = true := by kernel_rfl
theorem Tc77 : callable Try.prog 77 = true := by kernel_rfl
theorem Tc78 : callable Try.prog 78 = true := by kernel_rfl
theorem Tc79 : callable Try.prog 79 = true := by kernel_rfl
set_option maxRecDepth 20000 in
set_option maxHeartbeats 1000000 in
theorem core_Plain_ok {a0 : Core} {A_a0_bounds : Option Addr} {c_a0_bounds : Nat} {w : World} {res : (List Bound) × Int} (h_a0_bounds : Sl w A_a0_bounds c_a0_bounds 3 (a0.bounds.map encBound)) (F : core_Plain a0 = some res) : Calls Try.prog 49 #[.agg #[.int .i64 a0.layers, .slice A_a0_bounds a0.bounds.length c_a0_bounds]] w (fun e w' => ∃ (A0 : Option Addr) (c0 : Nat), e = .returned (.tuple #[.slice A0 res.1.length c0, .int .i64 res.2]) ∧ Hp w w' [.own A0 c0 26 3 (List.map encBound res.1)]) := by
  refine calls_of_cw (args := [.agg #[.int .i64 a0.layers, .slice A_a0_bounds a0.bounds.length c_a0_bounds]]) Try.func49 rfl rfl rfl rfl ?_
  have H := Hp.start w
  have R0 := H.ext
  unfold core_Plain at F
  refine CW.seq fun K1 hK1 => ?_
  refine CW.region ?_
  refine LW.go rfl rfl (OW.box rfl fun b1 w1 N1 => ?_)
  replace H := H.new N1 N1.blk
  replace R0 := H.ext
  refine LW.pure rfl rfl (RV.assign rfl) ?_
  refine LW.pure rfl rfl (RV.assign rfl) ?_
  refine LW.nil (hK1 _ _ ?_)
  refine CW.seq fun K2 hK2 => ?_
  refine CW.seq fun K3 hK3 => ?_
  obtain ⟨r1, hr1, F⟩ := bnd_some F
  refine CW.region ?_
  refine LW.pure rfl rfl (RV.loadA [.int .i64 a0.layers, .slice A_a0_bounds a0.bounds.length c_a0_bounds] Tk24 rfl (H.blk 0 rfl).cells rfl rfl) ?_
  refine LW.go rfl rfl (OW.call Tc36 rfl (core_Validate_ok (a0 := a0) (h_a0_bounds.ext R0) hr1) ?_)
  rintro _ w2 ⟨rfl, E1⟩
  refine ⟨_, rfl, ?_⟩
  replace H := H.grow E1
  replace R0 := H.ext
  refine LW.pure rfl rfl (RV.assign rfl) ?_
  refine LW.nil (hK3 _ _ ?_)
  refine CW.seq fun K4 hK4 => ?_
  refine CW.region ?_
  refine LW.pure rfl rfl (RV.move rfl) ?_
  refine LW.pure rfl rfl (RV.nei rfl rfl) ?_
  refine LW.nil (hK4 _ _ ?_)
  by_cases hp1 : r1 = 0
  ·
    replace F := ite_y hp1 F
    have hq1 := dec_t hp1
    refine CW.condF rfl (not_f hq1) ?_
    refine CW.skip (hK2 _ _ ?_)
    refine CW.seq fun K5 hK5 => ?_
    obtain ⟨r2, hr2, F⟩ := bnd_some F
    refine CW.region ?_
    refine LW.pure rfl rfl (RV.loadA [.int .i64 a0.layers, .slice A_a0_bounds a0.bounds.length c_a0_bounds] Tk24 rfl (H.blk 0 rfl).cells rfl rfl) ?_
    refine LW.go rfl rfl (OW.call Tc60 rfl (core_tables_ok (a0 := a0) (h_a0_bounds.ext R0) hr2) ?_)
    rintro _ w3 ⟨A7_0, c7_0, hs7_0, rfl, E2⟩
    refine ⟨_, rfl, ?_⟩
    replace H : Hp w w3 [.tab A7_0 c7_0 76 hs7_0 75 2 (encM encTight r2.1), .blk b1 24 [.int .i64 a0.layers, .slice A_a0_bounds a0.bounds.length c_a0_bounds]] := H.append E2
    replace R0 := H.ext
    refine LW.pure rfl rfl (RV.move rfl) ?_
    refine LW.pure rfl rfl (RV.extract rfl rfl) ?_
    refine LW.pure rfl rfl (RV.extract rfl rfl) ?_
    refine LW.pure rfl rfl (RV.assign rfl) ?_
    refine LW.pure rfl rfl (RV.assign rfl) ?_
    refine LW.nil (hK5 _ _ ?_)
    refine CW.seq fun K6 hK6 => ?_
    refine CW.seq fun K7 hK7 => ?_
    refine CW.region ?_
    refine LW.pure rfl rfl (RV.move rfl) ?_
    refine LW.pure rfl rfl (RV.nei rfl rfl) ?_
    refine LW.nil (hK7 _ _ ?_)
    by_cases hp2 : r2.2 = 0
    ·
      replace F := ite_y hp2 F
      have hq2 := dec_t hp2
      refine CW.condF rfl (not_f hq2) ?_
      refine CW.skip (hK6 _ _ ?_)
      refine CW.seq fun K8 hK8 => ?_
      obtain ⟨r3, hr3, F⟩ := bnd_some F
      refine CW.region ?_
      refine LW.pure rfl rfl (RV.move rfl) ?_
      refine LW.go rfl rfl (OW.call Tc77 rfl (core_plain_ok (a0 := r2.1) (H.tab 0 rfl).sl2 hr3) ?_)
      rintro _ w4 ⟨A9_0, c9_0, rfl, E3⟩
      refine ⟨_, rfl, ?_⟩
      replace H : Hp w w4 [.own A9_0 c9_0 26 3 (List.map encBound r3), .tab A7_0 c7_0 76 hs7_0 75 2 (encM encTight r2.1), .blk b1 24 [.int .i64 a0.layers, .slice A_a0_bounds a0.bounds.length c_a0_bounds]] := H.append E3
      replace R0 := H.ext
      refine LW.pure rfl rfl (RV.assign rfl) ?_
      refine LW.pure rfl rfl (RV.assign rfl) ?_
      refine LW.nil (hK8 _ _ ?_)
      refine CW.ret ?_
      obtain rfl := Option.some.inj F
      refine ⟨_, (ResOK.two rfl rfl), ?_⟩
      replace H := H.pick (L' := [.own A9_0 c9_0 26 3 (List.map encBound r3)]) [0] (by decide) rfl
      replace R0 := H.ext
      exact ⟨A9_0, c9_0, (by first | rfl | (simp; done) | (simp; omega)), H⟩
    ·
      replace F := ite_n hp2 F
      have hq2 := dec_f hp2
      refine CW.condT rfl (not_t hq2) ?_
      refine CW.seq fun K9 hK9 => ?_
      refine CW.region ?_
      refine LW.pure rfl rfl (RV.move rfl) ?_
      refine LW.pure rfl rfl (RV.assign rfl) ?_
      refine LW.pure rfl rfl (RV.assign rfl) ?_
      refine LW.nil (hK9 _ _ ?_)
      refine CW.ret ?_
      obtain rfl := Option.some.inj F
      refine ⟨_, (ResOK.two rfl rfl), ?_⟩
      replace H := H.nilOwn 26 3
      replace R0 := H.ext
      replace H := H.pick (L' := [.own none 0 26 3 (List.map encBound (([] : List Bound)))]) [0] (by decide) rfl
      replace R0 := H.ext
      exact ⟨none, 0, (by first | rfl | (simp; done) | (simp; omega)), H⟩
  ·
    replace F := ite_n hp1 F
    have hq1 := dec_f hp1
    refine CW.condT rfl (not_t hq1) ?_
    refine CW.seq fun K10 hK10 => ?_
    refine CW.region ?_
    refine LW.pure rfl rfl (RV.move rfl) ?_
    refine LW.pure rfl rfl (RV.assign rfl) ?_
    refine LW.pure rfl rfl (RV.assign rfl) ?_
    refine LW.nil (hK10 _ _ ?_)
    refine CW.ret ?_
    obtain rfl := Option.some.inj F
    refine ⟨_, (ResOK.two rfl rfl), ?_⟩
    replace H := H.nilOwn 26 3
    replace R0 := H.ext
    replace H := H.pick (L' := [.own none 0 26 3 (List.map encBound (([] : List Bound)))]) [0] (by decide) rfl
    replace R0 := H.ext
    exact ⟨none, 0, (by first | rfl | (simp; done) | (simp; omega)), H⟩
set_option maxRecDepth 20000 in
set_option maxHeartbeats 1000000 in
theorem ref03_plain_ok {a0 : Core} {A_a0_bounds : Option Addr} {c_a0_bounds : Nat} {w : World} {res : (List Bound)} (h_a0_bounds : Sl w A_a0_bounds c_a0_bounds 3 (a0.bounds.map encBound)) (F : ref03_plain a0 = some res) : Calls Try.prog 78 #[.agg #[.int .i64 a0.layers, .slice A_a0_bounds a0.bounds.length c_a0_bounds]] w (fun e w' => ∃ (A1 : Option Addr) (c1 : Nat), e = .returned (.slice A1 res.length c1) ∧ Hp w w' [.own A1 c1 26 3 (List.map encBound res)]) := by
  refine calls_of_cw (args := [.agg #[.int .i64 a0.layers, .slice A_a0_bounds a0.bounds.length c_a0_bounds]]) Try.func78 rfl rfl rfl rfl ?_
  have H := Hp.start w
  have R0 := H.ext
  unfold ref03_plain at F
  refine CW.seq fun K1 hK1 => ?_
  refine CW.region ?_
  refine LW.go rfl rfl (OW.box rfl fun b1 w1 N1 => ?_)
  replace H := H.new N1 N1.blk
  replace R0 := H.ext
  refine LW.pure rfl rfl (RV.assign rfl) ?_
  refine LW.nil (hK1 _ _ ?_)
  refine CW.seq fun K2 hK2 => ?_
  obtain ⟨r1, hr1, F⟩ := bnd_some F
  refine CW.region ?_
  refine LW.pure rfl rfl (RV.loadA [.int .i64 a0.layers, .slice A_a0_bounds a0.bounds.length c_a0_bounds] Tk24 rfl (H.blk 0 rfl).cells rfl rfl) ?_
  refine LW.pure rfl rfl (RV.fieldAddr Tf24_0 rfl) ?_
  refine LW.pure rfl rfl (RV.load1 Tk3 rfl ((H.blk 0 rfl).cells.off 0) rfl) ?_
  refine LW.go rfl rfl (OW.call Tc65 rfl (ref03_walks_ok (a0 := a0) (a1 := a0.layers) (h_a0_bounds.ext R0) hr1) ?_)
  rintro _ w2 ⟨A3_0, c3_0, hs3_0, A3_1, c3_1, hs3_1, rfl, E1⟩
  refine ⟨_, rfl, ?_⟩
  replace H : Hp w w2 [.tab A3_0 c3_0 43 hs3_0 3 1 (encM encN r1.1), .tab A3_1 c3_1 81 hs3_1 4 1 (encM encBl r1.2), .blk b1 24 [.int .i64 a0.layers, .slice A_a0_bounds a0.bounds.length c_a0_bounds]] := H.append E1
  replace R0 := H.ext
  refine LW.pure rfl rfl (RV.move rfl) ?_
  refine LW.pure rfl rfl (RV.extract rfl rfl) ?_
  refine LW.pure rfl rfl (RV.extract rfl rfl) ?_
  refine LW.pure rfl rfl (RV.assign rfl) ?_
  refine LW.pure rfl rfl (RV.assign rfl) ?_
  refine LW.nil (hK2 _ _ ?_)
  refine CW.seq fun K3 hK3 => ?_
  refine CW.region ?_
  refine LW.pure rfl rfl (RV.assign rfl) ?_
  refine LW.nil (hK3 _ _ ?_)
  refine CW.seqJ (fun ρ wl1 => (∃ (l1 : List Bound) (Al1 : Option Addr) (cl1 : Nat), ref03_plain_k1 l1 = some res ∧ ρ = [(2, .slice none 0 0), (5, .slice Al1 l1.length cl1)] ∧ Hp w wl1 [.own Al1 cl1 26 3 (List.map encBound l1)])) ?_ ?_
  ·
    rintro _ wl1 ⟨l1, Al1, cl1, F, rfl, H⟩
    have R0 := H.ext
    unfold ref03_plain_k1 at F
    refine CW.seq fun K4 hK4 => ?_
    refine CW.region ?_
    refine LW.pure rfl rfl (RV.move rfl) ?_
    refine LW.pure rfl rfl (RV.assign rfl) ?_
    refine LW.nil (hK4 _ _ ?_)
    refine CW.ret ?_
    obtain rfl := Option.some.inj F
    refine ⟨_, (ResOK.one rfl), ?_⟩
    exact ⟨Al1, cl1, (by first | rfl | (simp; done) | (simp; omega)), H⟩
  ·
    intro K5 hK5 jK328
    refine CW.seq fun K6 hK6 => ?_
    refine CW.region ?_
    refine LW.pure rfl rfl (RV.assign rfl) ?_
    refine LW.nil (hK6 _ _ ?_)
    refine CW.block ?_
    replace H := H.nilOwn 26 3
    replace R0 := H.ext
    replace H := H.pick (L' := [.tab A3_0 c3_0 43 hs3_0 3 1 (encM encN r1.1), .tab A3_1 c3_1 81 hs3_1 4 1 (encM encBl r1.2), .own none 0 26 3 (List.map encBound (([] : List Bound))), .blk b1 24 [.int .i64 a0.layers, .slice A_a0_bounds a0.bounds.length c_a0_bounds]]) [1, 2, 0, 3] (by decide) rfl
    replace R0 := H.ext
    refine CW.loop (fun meas ρ wl2 => ∃ (t6_1 : Int) (l5 : List Bound) (Al5 : Option Addr) (cl5 : Nat), ref03_plain_L2 a0 r1 meas t6_1 l5 = some res ∧ ρ = [(1, .pointer (some (⟨b1, 0, none⟩))), (2, .slice none 0 0), (3, .slice A3_0 r1.1.length c3_0), (4, .slice A3_1 r1.2.length c3_1), (5, .slice Al5 l5.length cl5), (6, .int .i64 t6_1)] ∧ Hp w wl2 [.tab A3_0 c3_0 43 hs3_0 3 1 (encM encN r1.1), .tab A3_1 c3_1 81 hs3_1 4 1 (encM encBl r1.2), .own Al5 cl5 26 3 (List.map encBound l5), .blk b1 24 [.int .i64 a0.layers, .slice A_a0_bounds a0.bounds.length c_a0_bounds]]) FU ⟨_, ?_, ((0 : Int)), (([] : List Bound)), none, 0, F, rfl, H⟩ ?_
    · exact ⟨rfl, rfl, (look_slice rfl (by first | rfl | (simp; done) | omega | (simp; omega))), (look_slice rfl (by first | rfl | (simp; done) | omega | (simp; omega))), (look_slice rfl (by first | rfl | (simp; done) | omega | (simp; omega))), rfl, trivial⟩
    rintro mk1 _ wl2 ⟨t6_1, l5, Al5, cl5, F, rfl, H⟩
    have R0 := H.ext
    replace F := ref03_plain_L2_s F
    obtain ⟨mk1, rfl, F⟩ := F
    generalize hrec1 : ref03_plain_L2 a0 r1 mk1 = rec1 at F
    unfold ref03_plain_B2 at F
    refine CW.seq fun K7 hK7 => ?_
    refine CW.seq fun K8 hK8 => ?_
    refine CW.region ?_
    refine LW.pure rfl rfl (RV.move rfl) ?_
    refine LW.pure rfl rfl (RV.fieldAddr Tf24_0 rfl) ?_
    refine LW.pure rfl rfl (RV.load1 Tk3 rfl ((H.blk 3 rfl).cells.off 0) rfl) ?_
    refine LW.pure rfl rfl (RV.lss rfl rfl) ?_
    refine LW.nil (hK8 _ _ ?_)
    by_cases hp1 : t6_1 < a0.layers
    ·
      replace F := ite_y hp1 F
      have hq1 := dec_t hp1
      refine CW.condT rfl hq1 ?_
      refine CW.skip (hK7 _ _ ?_)
      refine CW.seqJ (fun ρ wl3 => (∃ (l2 : List Bound) (Al2 : Option Addr) (cl2 : Nat), ref03_plain_k2 t6_1 rec1 l2 = some res ∧ ρ = [(1, .pointer (some (⟨b1, 0, none⟩))), (2, .slice none 0 0), (3, .slice A3_0 r1.1.length c3_0), (4, .slice A3_1 r1.2.length c3_1), (5, .slice Al2 l2.length cl2), (6, .int .i64 t6_1)] ∧ Hp w wl3 [.tab A3_0 c3_0 43 hs3_0 3 1 (encM encN r1.1), .tab A3_1 c3_1 81 hs3_1 4 1 (encM encBl r1.2), .own Al2 cl2 26 3 (List.map encBound l2), .blk b1 24 [.int .i64 a0.layers, .slice A_a0_bounds a0.bounds.length c_a0_bounds]])) ?_ ?_
      ·
        rintro _ wl3 ⟨l2, Al2, cl2, F, rfl, H⟩
        have R0 := H.ext
        unfold ref03_plain_k2 at F
        obtain ⟨hg1, F⟩ := gd_some F
        refine CW.region ?_
        refine LW.pure rfl rfl (RV.move rfl) ?_
        refine LW.pure rfl rfl (RV.add rfl rfl hg1) ?_
        refine LW.pure rfl rfl (RV.assign rfl) ?_
        refine LW.nil ?_
        subst hrec1
        refine ⟨mk1, Nat.lt_succ_self _, _, ?_, (t6_1 + 1), l2, Al2, cl2, F, rfl, H⟩
        exact ⟨rfl, rfl, (look_slice rfl (by first | rfl | (simp; done) | omega | (simp; omega))), (look_slice rfl (by first | rfl | (simp; done) | omega | (simp; omega))), (look_slice rfl (by first | rfl | (simp; done) | omega | (simp; omega))), rfl, trivial⟩
      ·
        intro K9 hK9 jK418
        refine CW.block ?_
        refine CW.seq fun K10 hK10 => ?_
        refine CW.region ?_
        refine LW.pure rfl rfl (RV.assign rfl) ?_
        refine LW.nil (hK10 _ _ ?_)
        refine CW.block ?_
        refine CW.loop (fun meas ρ wl4 => ∃ (t7_1 : Int) (l4 : List Bound) (Al4 : Option Addr) (cl4 : Nat), ref03_plain_L1 a0 r1 t6_1 rec1 meas t7_1 l4 = some res ∧ ρ = [(1, .pointer (some (⟨b1, 0, none⟩))), (2, .slice none 0 0), (3, .slice A3_0 r1.1.length c3_0), (4, .slice A3_1 r1.2.length c3_1), (5, .slice Al4 l4.length cl4), (6, .int .i64 t6_1), (7, .int .i64 t7_1)] ∧ Hp w wl4 [.tab A3_0 c3_0 43 hs3_0 3 1 (encM encN r1.1), .tab A3_1 c3_1 81 hs3_1 4 1 (encM encBl r1.2), .own Al4 cl4 26 3 (List.map encBound l4), .blk b1 24 [.int .i64 a0.layers, .slice A_a0_bounds a0.bounds.length c_a0_bounds]]) FU ⟨_, ?_, ((0 : Int)), l5, Al5, cl5, F, rfl, H⟩ ?_
        · exact ⟨rfl, rfl, (look_slice rfl (by first | rfl | (simp; done) | omega | (simp; omega))), (look_slice rfl (by first | rfl | (simp; done) | omega | (simp; omega))), (look_slice rfl (by first | rfl | (simp; done) | omega | (simp; omega))), rfl, rfl, trivial⟩
        rintro mk2 _ wl4 ⟨t7_1, l4, Al4, cl4, F, rfl, H⟩
        have R0 := H.ext
        replace F := ref03_plain_L1_s F
        obtain ⟨mk2, rfl, F⟩ := F
        generalize hrec2 : ref03_plain_L1 a0 r1 t6_1 rec1 mk2 = rec2 at F
        unfold ref03_plain_B1 at F
        refine CW.seq fun K11 hK11 => ?_
        refine CW.seq fun K12 hK12 => ?_
        refine CW.region ?_
        refine LW.pure rfl rfl (RV.move rfl) ?_
        refine LW.pure rfl rfl (RV.fieldAddr Tf24_0 rfl) ?_
        refine LW.pure rfl rfl (RV.load1 Tk3 rfl ((H.blk 3 rfl).cells.off 0) rfl) ?_
        refine LW.pure rfl rfl (RV.lss rfl rfl) ?_
        refine LW.nil (hK12 _ _ ?_)
        by_cases hp2 : t7_1 < a0.layers
        ·
          replace F := ite_y hp2 F
          have hq2 := dec_t hp2
          refine CW.condT rfl hq2 ?_
          refine CW.skip (hK11 _ _ ?_)
          refine CW.seqJ (fun ρ wl5 => (∃ (l3 : List Bound) (Al3 : Option Addr) (cl3 : Nat), ref03_plain_k3 t7_1 rec2 l3 = some res ∧ ρ = [(1, .pointer (some (⟨b1, 0, none⟩))), (2, .slice none 0 0), (3, .slice A3_0 r1.1.length c3_0), (4, .slice A3_1 r1.2.length c3_1), (5, .slice Al3 l3.length cl3), (6, .int .i64 t6_1), (7, .int .i64 t7_1)] ∧ Hp w wl5 [.tab A3_0 c3_0 43 hs3_0 3 1 (encM encN r1.1), .tab A3_1 c3_1 81 hs3_1 4 1 (encM encBl r1.2), .own Al3 cl3 26 3 (List.map encBound l3), .blk b1 24 [.int .i64 a0.layers, .slice A_a0_bounds a0.bounds.length c_a0_bounds]])) ?_ ?_
          ·
            rintro _ wl5 ⟨l3, Al3, cl3, F, rfl, H⟩
            have R0 := H.ext
            unfold ref03_plain_k3 at F
            obtain ⟨hg2, F⟩ := gd_some F
            refine CW.region ?_
            refine LW.pure rfl rfl (RV.move rfl) ?_
            refine LW.pure rfl rfl (RV.add rfl rfl hg2) ?_
            refine LW.pure rfl rfl (RV.assign rfl) ?_
            refine LW.nil ?_
            subst hrec2
            refine ⟨mk2, Nat.lt_succ_self _, _, ?_, (t7_1 + 1), l3, Al3, cl3, F, rfl, H⟩
            exact ⟨rfl, rfl, (look_slice rfl (by first | rfl | (simp; done) | omega | (simp; omega))), (look_slice rfl (by first | rfl | (simp; done) | omega | (simp; omega))), (look_slice rfl (by first | rfl | (simp; done) | omega | (simp; omega))), rfl, rfl, trivial⟩
          ·
            intro K13 hK13 jK433
            refine CW.block ?_
            refine CW.seqJ (fun ρ wl6 => (∃ (t38_1 : Bool), ref03_plain_k4 r1 t6_1 t7_1 l4 rec2 t38_1 = some res ∧ ρ = [(1, .pointer (some (⟨b1, 0, none⟩))), (2, .slice none 0 0), (3, .slice A3_0 r1.1.length c3_0), (4, .slice A3_1 r1.2.length c3_1), (5, .slice Al4 l4.length cl4), (6, .int .i64 t6_1), (7, .int .i64 t7_1), (38, .bool t38_1)] ∧ Hp w wl6 [.tab A3_0 c3_0 43 hs3_0 3 1 (encM encN r1.1), .tab A3_1 c3_1 81 hs3_1 4 1 (encM encBl r1.2), .own Al4 cl4 26 3 (List.map encBound l4), .blk b1 24 [.int .i64 a0.layers, .slice A_a0_bounds a0.bounds.length c_a0_bounds]])) ?_ ?_
            ·
              rintro _ wl6 ⟨t38_1, F, rfl, H⟩
              have R0 := H.ext
              unfold ref03_plain_k4 at F
              by_cases hp3 : t38_1 = true
              ·
                replace F := ite_y hp3 F
                have hq3 : t38_1 = true := hp3
                refine CW.condT rfl hq3 ?_
                obtain ⟨x1, hbx1, hx1, F⟩ := ix_some F
                obtain ⟨x2, hbx2, hx2, F⟩ := ix_some F
                obtain ⟨hg3, F⟩ := gd_some F
                refine CW.region ?_
                refine LW.pure rfl rfl (RV.move rfl) ?_
                refine LW.pure rfl rfl (RV.move rfl) ?_
                refine LW.pure rfl rfl (RV.move rfl) ?_
                refine LW.pure rfl rfl (RV.move rfl) ?_
                refine LW.pure rfl rfl (RV.move rfl) ?_
                obtain ⟨B1, e1, hh1⟩ := (H.tab 0 rfl).hd hx1
                refine LW.pure rfl rfl (RV.indexAddr Ts58 rfl rfl hbx1 ((H.tab 0 rfl).addr_ hx1)) ?_
                refine LW.pure rfl rfl (RV.load1 Tk43 rfl ((H.tab 0 rfl).cell hx1 hh1) rfl) ?_
                refine LW.pure rfl rfl (RV.move rfl) ?_
                refine LW.pure rfl rfl (RV.indexAddr Ts43 rfl rfl hbx2 (((H.tab 0 rfl).rowO hx1 hh1).sl.addr_ hx2)) ?_
                refine LW.pure rfl rfl (RV.load1 Tk3 rfl (((H.tab 0 rfl).rowO hx1 hh1).sl.at_ hx2) rfl) ?_
                refine LW.pure rfl rfl (RV.build (vs := [.int .i64 t6_1, .int .i64 t7_1, .int .i64 x2]) (cs := [.int .i64 t6_1, .int .i64 t7_1, .int .i64 x2]) rfl (fun _ => by kernel_rfl)) ?_
                refine LW.go rfl rfl (OW.buildSlice (e := 26) (vs := [.agg #[.int .i64 t6_1, .int .i64 t7_1, .int .i64 x2]]) (cs := [.int .i64 t6_1, .int .i64 t7_1, .int .i64 x2]) rfl (fun _ => by kernel_rfl) fun b2 w3 N2 => ?_)
                replace H := H.made' (k := 3) (t := 26) (enc := encBound) (l := ([(⟨t6_1, t7_1, x2⟩ : Bound)] : List Bound)) N2 N2.blk (fun _ => rfl) rfl (by first | decide | omega | (simp; done) | (simp; omega))
                replace R0 := H.ext
                refine LW.go rfl rfl (OW.appendG (enc := encBound) (l := l4) (xs := ([(⟨t6_1, t7_1, x2⟩ : Bound)] : List Bound)) Ts22 rfl (look_slice rfl (by first | rfl | (simp; done) | (simp; omega))) (H.own 3 rfl) (H.own 0 rfl).sl (fun _ => rfl) rfl rfl hg3 (by decide) fun A2 c2 w4 O1 M1 D1 => ?_)
                replace H : Hp w w4 [.own (some ⟨b2, 0, none⟩) ((([(⟨t6_1, t7_1, x2⟩ : Bound)] : List Bound)).length) 26 3 (List.map encBound (([(⟨t6_1, t7_1, x2⟩ : Bound)] : List Bound))), .tab A3_0 c3_0 43 hs3_0 3 1 (encM encN r1.1), .tab A3_1 c3_1 81 hs3_1 4 1 (encM encBl r1.2), .own A2 c2 26 3 (List.map encBound ((l4 ++ ([(⟨t6_1, t7_1, x2⟩ : Bound)] : List Bound)))), .blk b1 24 [.int .i64 a0.layers, .slice A_a0_bounds a0.bounds.length c_a0_bounds]] := H.mod 3 rfl M1 O1 D1
                replace R0 := H.ext
                refine LW.pure rfl rfl (RV.assign rfl) ?_
                replace H := H.pick (L' := [.tab A3_0 c3_0 43 hs3_0 3 1 (encM encN r1.1), .tab A3_1 c3_1 81 hs3_1 4 1 (encM encBl r1.2), .own A2 c2 26 3 (List.map encBound ((l4 ++ ([(⟨t6_1, t7_1, x2⟩ : Bound)] : List Bound)))), .blk b1 24 [.int .i64 a0.layers, .slice A_a0_bounds a0.bounds.length c_a0_bounds]]) [1, 2, 3, 4] (by decide) rfl
                replace R0 := H.ext
                refine LW.nil (jK433 _ _ ⟨_, ?_, ⟨((l4 ++ ([(⟨t6_1, t7_1, x2⟩ : Bound)] : List Bound))), A2, c2, F, rfl, H⟩⟩)
                exact ⟨rfl, rfl, (look_slice rfl (by first | rfl | (simp; done) | omega | (simp; omega))), (look_slice rfl (by first | rfl | (simp; done) | omega | (simp; omega))), (look_slice rfl (by first | rfl | (simp; done) | omega | (simp; omega))), rfl, rfl, trivial⟩
              ·
                replace F := ite_n hp3 F
                have hq3 : t38_1 = false := raw_f hp3
                refine CW.condF rfl hq3 ?_
                refine CW.skip (jK433 _ _ ⟨_, ?_, ⟨l4, Al4, cl4, F, rfl, H⟩⟩)
                exact ⟨rfl, rfl, (look_slice rfl (by first | rfl | (simp; done) | omega | (simp; omega))), (look_slice rfl (by first | rfl | (simp; done) | omega | (simp; omega))), (look_slice rfl (by first | rfl | (simp; done) | omega | (simp; omega))), rfl, rfl, trivial⟩
            ·
              intro K14 hK14 jK434
              by_cases hp4 : t6_1 = t7_1
              ·
                replace F := ite_y hp4 F
                have hq4 := dec_t hp4
                refine CW.region ?_
                refine LW.pure rfl rfl (RV.move rfl) ?_
                refine LW.pure rfl rfl (RV.move rfl) ?_
                refine LW.pure rfl rfl (RV.nei rfl rfl) ?_
                refine LW.pure rfl rfl (RV.move rfl) ?_
                refine LW.noB rfl rfl rfl rfl (ne_beq (v := false) (not_f hq4) rfl) ?_
                refine LW.noB rfl rfl rfl rfl (ne_beq (v := false) (not_f hq4) rfl) ?_
                refine LW.noB rfl rfl rfl rfl (ne_beq (v := false) (not_f hq4) rfl) ?_
                refine LW.noB rfl rfl rfl rfl (ne_beq (v := false) (not_f hq4) rfl) ?_
                refine LW.noB rfl rfl rfl rfl (ne_beq (v := false) (not_f hq4) rfl) ?_
                refine LW.noB rfl rfl rfl rfl (ne_beq (v := false) (not_f hq4) rfl) ?_
                refine LW.noB rfl rfl rfl rfl (ne_beq (v := false) (not_f hq4) rfl) ?_
                refine LW.pure rfl rfl (RV.pickFB rfl (not_f hq4) rfl) ?_
                refine LW.nil (jK434 _ _ ⟨_, ?_, ⟨false, F, rfl, H⟩⟩)
                exact ⟨rfl, rfl, (look_slice rfl (by first | rfl | (simp; done) | omega | (simp; omega))), (look_slice rfl (by first | rfl | (simp; done) | omega | (simp; omega))), (look_slice rfl (by first | rfl | (simp; done) | omega | (simp; omega))), rfl, rfl, rfl, trivial⟩
              ·
                replace F := ite_n hp4 F
                have hq4 := dec_f hp4
                obtain ⟨x3, hbx3, hx3, F⟩ := ix_some F
                obtain ⟨x4, hbx4, hx4, F⟩ := ix_some F
                refine CW.region ?_
                refine LW.pure rfl rfl (RV.move rfl) ?_
                refine LW.pure rfl rfl (RV.move rfl) ?_
                refine LW.pure rfl rfl (RV.nei rfl rfl) ?_
                refine LW.pure rfl rfl (RV.move rfl) ?_
                refine LW.pureYB rfl rfl rfl rfl (not_t hq4) (RV.move rfl) ?_
                refine LW.pureYB rfl rfl rfl rfl (not_t hq4) (RV.move rfl) ?_
                obtain ⟨B2, e2, hh2⟩ := (H.tab 1 rfl).hd hx3
                refine LW.pureYB rfl rfl rfl rfl (not_t hq4) (RV.indexAddr Ts78 rfl rfl hbx3 ((H.tab 1 rfl).addr_ hx3)) ?_
                refine LW.pureYB rfl rfl rfl rfl (not_t hq4) (RV.load1 Tk81 rfl ((H.tab 1 rfl).cell hx3 hh2) rfl) ?_
                refine LW.pureYB rfl rfl rfl rfl (not_t hq4) (RV.move rfl) ?_
                refine LW.pureYB rfl rfl rfl rfl (not_t hq4) (RV.indexAddr Ts81 rfl rfl hbx4 (((H.tab 1 rfl).rowO hx3 hh2).sl.addr_ hx4)) ?_
                refine LW.pureYB rfl rfl rfl rfl (not_t hq4) (RV.load1 Tk4 rfl (((H.tab 1 rfl).rowO hx3 hh2).sl.at_ hx4) rfl) ?_
                refine LW.pure rfl rfl (RV.pickTB rfl (not_t hq4) rfl) ?_
                refine LW.nil (jK434 _ _ ⟨_, ?_, ⟨x4, F, rfl, H⟩⟩)
                exact ⟨rfl, rfl, (look_slice rfl (by first | rfl | (simp; done) | omega | (simp; omega))), (look_slice rfl (by first | rfl | (simp; done) | omega | (simp; omega))), (look_slice rfl (by first | rfl | (simp; done) | omega | (simp; omega))), rfl, rfl, rfl, trivial⟩
        ·
          replace F := ite_n hp2 F
          have hq2 := dec_f hp2
          refine CW.condF rfl hq2 ?_
          refine CW.exit (jK418 _ _ ⟨_, ?_, ⟨l4, Al4, cl4, F, rfl, H⟩⟩)
          exact ⟨rfl, rfl, (look_slice rfl (by first | rfl | (simp; done) | omega | (simp; omega))), (look_slice rfl (by first | rfl | (simp; done) | omega | (simp; omega))), (look_slice rfl (by first | rfl | (simp; done) | omega | (simp; omega))), rfl, trivial⟩
    ·
      replace F := ite_n hp1 F
      have hq1 := dec_f hp1
      refine CW.condF rfl hq1 ?_
      replace H := H.pick (L' := [.own Al5 cl5 26 3 (List.map encBound l5)]) [2] (by decide) rfl
      replace R0 := H.ext
      refine CW.exit (jK328 _ _ ⟨_, ?_, ⟨l5, Al5, cl5, F, rfl, H⟩⟩)
      exact ⟨rfl, (look_slice rfl (by first | rfl | (simp; done) | omega | (simp; omega))), trivial⟩
set_option maxRecDepth 20000 in
set_option maxHeartbeats 1000000 in
theorem ref03_Plain_ok {a0 : Core} {A_a0_bounds : Option Addr} {c_a0_bounds : Nat} {w : World} {res : (List Bound) × Int} (h_a0_bounds : Sl w A_a0_bounds c_a0_bounds 3 (a0.bounds.map encBound)) (F : ref03_Plain a0 = some res) : Calls Try.prog 50 #[.agg #[.int .i64 a0.layers, .slice A_a0_bounds a0.bounds.length c_a0_bounds]] w (fun e w' => ∃ (A0 : Option Addr) (c0 : Nat), e = .returned (.tuple #[.slice A0 res.1.length c0, .int .i64 res.2]) ∧ Hp w w' [.own A0 c0 26 3 (List.map encBound res.1)]) := by
  refine calls_of_cw (args := [.agg #[.int .i64 a0.layers, .slice A_a0_bounds a0.bounds.length c_a0_bounds]]) Try.func50 rfl rfl rfl rfl ?_
  have H := Hp.start w
  have R0 := H.ext
  unfold ref03_Plain at F
  refine CW.seq fun K1 hK1 => ?_
  refine CW.region ?_
  refine LW.go rfl rfl (OW.box rfl fun b1 w1 N1 => ?_)
  replace H := H.new N1 N1.blk
  replace R0 := H.ext
  refine LW.pure rfl rfl (RV.assign rfl) ?_
  refine LW.pure rfl rfl (RV.assign rfl) ?_
  refine LW.nil (hK1 _ _ ?_)
  refine CW.seq fun K2 hK2 => ?_
  refine CW.seq fun K3 hK3 => ?_
  obtain ⟨r1, hr1, F⟩ := bnd_some F
  refine CW.region ?_
  refine LW.pure rfl rfl (RV.loadA [.int .i64 a0.layers, .slice A_a0_bounds a0.bounds.length c_a0_bounds] Tk24 rfl (H.blk 0 rfl).cells rfl rfl) ?_
  refine LW.go rfl rfl (OW.call Tc37 rfl (ref03_Validate_ok (a0 := a0) (h_a0_bounds.ext R0) hr1) ?_)
  rintro _ w2 ⟨rfl, E1⟩
  refine ⟨_, rfl, ?_⟩
  replace H := H.grow E1
  replace R0 := H.ext
  refine LW.pure rfl rfl (RV.assign rfl) ?_
  refine LW.nil (hK3 _ _ ?_)
  refine CW.seq fun K4 hK4 => ?_
  refine CW.region ?_
  refine LW.pure rfl rfl (RV.move rfl) ?_
  refine LW.pure rfl rfl (RV.nei rfl rfl) ?_
  refine LW.nil (hK4 _ _ ?_)
  by_cases hp1 : r1 = 0
  ·
    replace F := ite_y hp1 F
    have hq1 := dec_t hp1
    refine CW.condF rfl (not_f hq1) ?_
    refine CW.skip (hK2 _ _ ?_)
    refine CW.seq fun K5 hK5 => ?_
    refine CW.seq fun K6 hK6 => ?_
    obtain ⟨r2, hr2, F⟩ := bnd_some F
    refine CW.region ?_
    refine LW.pure rfl rfl (RV.loadA [.int .i64 a0.layers, .slice A_a0_bounds a0.bounds.length c_a0_bounds] Tk24 rfl (H.blk 0 rfl).cells rfl rfl) ?_
    refine LW.go rfl rfl (OW.call Tc69 rfl (ref03_clashes_ok (a0 := a0) (h_a0_bounds.ext R0) hr2) ?_)
    rintro _ w3 ⟨rfl, E2⟩
    refine ⟨_, rfl, ?_⟩
    replace H := H.grow E2
    replace R0 := H.ext
    refine LW.nil (hK6 _ _ ?_)
    by_cases hp2 : r2 = true
    ·
      replace F := ite_y hp2 F
      have hq2 : r2 = true := hp2
      refine CW.condT rfl hq2 ?_
      refine CW.seq fun K7 hK7 => ?_
      refine CW.region ?_
      refine LW.pure rfl rfl (RV.assign rfl) ?_
      refine LW.pure rfl rfl (RV.assign rfl) ?_
      refine LW.nil (hK7 _ _ ?_)
      refine CW.ret ?_
      obtain rfl := Option.some.inj F
      refine ⟨_, (ResOK.two rfl rfl), ?_⟩
      replace H := H.nilOwn 26 3
      replace R0 := H.ext
      replace H := H.pick (L' := [.own none 0 26 3 (List.map encBound (([] : List Bound)))]) [0] (by decide) rfl
      replace R0 := H.ext
      exact ⟨none, 0, (by first | rfl | (simp; done) | (simp; omega)), H⟩
    ·
      replace F := ite_n hp2 F
      have hq2 : r2 = false := raw_f hp2
      refine CW.condF rfl hq2 ?_
      refine CW.skip (hK5 _ _ ?_)
      refine CW.seq fun K8 hK8 => ?_
      obtain ⟨r3, hr3, F⟩ := bnd_some F
      refine CW.region ?_
      refine LW.pure rfl rfl (RV.loadA [.int .i64 a0.layers, .slice A_a0_bounds a0.bounds.length c_a0_bounds] Tk24 rfl (H.blk 0 rfl).cells rfl rfl) ?_
      refine LW.go rfl rfl (OW.call Tc78 rfl (ref03_plain_ok (a0 := a0) (h_a0_bounds.ext R0) hr3) ?_)
      rintro _ w4 ⟨A9_0, c9_0, rfl, E3⟩
      refine ⟨_, rfl, ?_⟩
      replace H : Hp w w4 [.own A9_0 c9_0 26 3 (List.map encBound r3), .blk b1 24 [.int .i64 a0.layers, .slice A_a0_bounds a0.bounds.length c_a0_bounds]] := H.append E3
      replace R0 := H.ext
      refine LW.pure rfl rfl (RV.assign rfl) ?_
      refine LW.pure rfl rfl (RV.assign rfl) ?_
      refine LW.nil (hK8 _ _ ?_)
      refine CW.ret ?_
      obtain rfl := Option.some.inj F
      refine ⟨_, (ResOK.two rfl rfl), ?_⟩
      replace H := H.pick (L' := [.own A9_0 c9_0 26 3 (List.map encBound r3)]) [0] (by decide) rfl
      replace R0 := H.ext
      exact ⟨A9_0, c9_0, (by first | rfl | (simp; done) | (simp; omega)), H⟩
  ·
    replace F := ite_n hp1 F
    have hq1 := dec_f hp1
    refine CW.condT rfl (not_t hq1) ?_
    refine CW.seq fun K9 hK9 => ?_
    refine CW.region ?_
    refine LW.pure rfl rfl (RV.move rfl) ?_
    refine LW.pure rfl rfl (RV.assign rfl) ?_
    refine LW.pure rfl rfl (RV.assign rfl) ?_
    refine LW.nil (hK9 _ _ ?_)
    refine CW.ret ?_
    obtain rfl := Option.some.inj F
    refine ⟨_, (ResOK.two rfl rfl), ?_⟩
    replace H := H.nilOwn 26 3
    replace R0 := H.ext
    replace H := H.pick (L' := [.own none 0 26 3 (List.map encBound (([] : List Bound)))]) [0] (by decide) rfl
    replace R0 := H.ext
    exact ⟨none, 0, (by first | rfl | (simp; done) | (simp; omega)), H⟩
set_option maxRecDepth 20000 in
set_option maxHeartbeats 1000000 in
theorem ref01_SameInts_ok {a0 : List Int} {a1 : List Int} {A_a0 : Option Addr} {c_a0 : Nat} {A_a1 : Option Addr} {c_a1 : Nat} {w : World} {res : Bool} (h_a0 : Sl w A_a0 c_a0 1 (a0.map encN)) (h_a1 : Sl w A_a1 c_a1 1 (a1.map encN)) (F : ref01_SameInts a0 a1 = some res) : Calls Try.prog 79 #[.slice A_a0 a0.length c_a0, .slice A_a1 a1.length c_a1] w (Rt w (.bool res)) := by
  refine calls_of_cw (args := [.slice A_a0 a0.length c_a0, .slice A_a1 a1.length c_a1]) Try.func79 rfl rfl rfl rfl ?_
  have H := Hp.start w
  have R0 := H.ext
  unfold ref01_SameInts at F
  refine CW.seq fun K1 hK1 => ?_
  refine CW.region ?_
  refine LW.pure rfl rfl (RV.assign rfl) ?_
  refine LW.nil (hK1 _ _ ?_)
  refine CW.seq fun K2 hK2 => ?_
  refine CW.seq fun K3 hK3 => ?_
  refine CW.region ?_
  refine LW.pure rfl rfl (RV.move rfl) ?_
  refine LW.pure rfl rfl (RV.len Ts43 rfl) ?_
  refine LW.pure rfl rfl (RV.move rfl) ?_
  refine LW.pure rfl rfl (RV.len Ts43 rfl) ?_
  refine LW.pure rfl rfl (RV.nei rfl rfl) ?_
  refine LW.nil (hK3 _ _ ?_)
  by_cases hp1 : ((a0.length : Int)) = ((a1.length : Int))
  ·
    replace F := ite_y hp1 F
    have hq1 := dec_t hp1
    refine CW.condF rfl (not_f hq1) ?_
    refine CW.skip (hK2 _ _ ?_)
    refine CW.seqJ (fun ρ wl1 => (ref01_SameInts_k1 = some res ∧ ρ = [(4, .bool false)] ∧ Hp w wl1 [])) ?_ ?_
    ·
      rintro _ wl1 ⟨F, rfl, H⟩
      have R0 := H.ext
      unfold ref01_SameInts_k1 at F
      refine CW.seq fun K4 hK4 => ?_
      refine CW.region ?_
      refine LW.pure rfl rfl (RV.assign rfl) ?_
      refine LW.nil (hK4 _ _ ?_)
      refine CW.ret ?_
      obtain rfl := Option.some.inj F
      refine ⟨_, (ResOK.one rfl), ?_⟩
      refine ⟨(by first | rfl | simp), R0⟩
    ·
      intro K5 hK5 jK59
      refine CW.seq fun K6 hK6 => ?_
      refine CW.region ?_
      refine LW.pure rfl rfl (RV.assign rfl) ?_
      refine LW.nil (hK6 _ _ ?_)
      refine CW.block ?_
      refine CW.loop (fun meas ρ wl2 => ∃ (t5_1 : Int), ref01_SameInts_L1 a0 a1 meas t5_1 = some res ∧ ρ = [(0, .slice A_a0 a0.length c_a0), (1, .slice A_a1 a1.length c_a1), (4, .bool false), (5, .int .i64 t5_1)] ∧ Hp w wl2 []) FU ⟨_, ?_, ((0 : Int)), F, rfl, H⟩ ?_
      · exact ⟨rfl, rfl, rfl, rfl, trivial⟩
      rintro mk1 _ wl2 ⟨t5_1, F, rfl, H⟩
      have R0 := H.ext
      replace F := ref01_SameInts_L1_s F
      obtain ⟨mk1, rfl, F⟩ := F
      generalize hrec1 : ref01_SameInts_L1 a0 a1 mk1 = rec1 at F
      unfold ref01_SameInts_B1 at F
      refine CW.seq fun K7 hK7 => ?_
      refine CW.seq fun K8 hK8 => ?_
      refine CW.region ?_
      refine LW.pure rfl rfl (RV.move rfl) ?_
      refine LW.pure rfl rfl (RV.move rfl) ?_
      refine LW.pure rfl rfl (RV.len Ts43 rfl) ?_
      refine LW.pure rfl rfl (RV.lss rfl rfl) ?_
      refine LW.nil (hK8 _ _ ?_)
      by_cases hp2 : t5_1 < ((a0.length : Int))
      ·
        replace F := ite_y hp2 F
        have hq2 := dec_t hp2
        refine CW.condT rfl hq2 ?_
        refine CW.skip (hK7 _ _ ?_)
        refine CW.seq fun K9 hK9 => ?_
        refine CW.block ?_
        refine CW.seq fun K10 hK10 => ?_
        obtain ⟨x1, hbx1, hx1, F⟩ := ix_some F
        obtain ⟨x2, hbx2, hx2, F⟩ := ix_some F
        refine CW.draw [] (fun _ => True) (.cons 0 1 (.cons 1 1 (.cons 2 1 (.cons 3 1 (.cons 4 1 (.cons 5 1 (.cons 6 1 (.cons 7 1 (.cons 8 1 .nil))))))))) mixed (by kernel_rfl) fun w1 E1 => ?_
        replace H := H.grow E1
        replace R0 := H.ext
        refine DW.fix rfl rfl rfl (fun _ EQ => RV.move rfl) ?_
        refine DW.fix rfl rfl rfl (fun _ EQ => RV.move rfl) ?_
        refine DW.fix rfl rfl rfl (fun _ EQ => RV.indexAddr Ts43 rfl rfl hbx1 (h_a0.addr_ hx1)) ?_
        refine DW.fix rfl rfl rfl (fun _ EQ => RV.load1 Tk3 rfl ((h_a0.at_ hx1).ext (R0.trans EQ)) rfl) ?_
        refine DW.fix rfl rfl rfl (fun _ EQ => RV.move rfl) ?_
        refine DW.fix rfl rfl rfl (fun _ EQ => RV.move rfl) ?_
        refine DW.fix rfl rfl rfl (fun _ EQ => RV.indexAddr Ts43 rfl rfl hbx2 (h_a1.addr_ hx2)) ?_
        refine DW.fix rfl rfl rfl (fun _ EQ => RV.load1 Tk3 rfl ((h_a1.at_ hx2).ext (R0.trans EQ)) rfl) ?_
        refine DW.fix rfl rfl rfl (fun _ EQ => RV.nei rfl rfl) ?_
        refine DW.nil (hK10 _ _ ?_)
        by_cases hp3 : x1 = x2
        ·
          replace F := ite_y hp3 F
          have hq3 := dec_t hp3
          refine CW.condF rfl (not_f hq3) ?_
          refine CW.skip (hK9 _ _ ?_)
          obtain ⟨hg1, F⟩ := gd_some F
          refine CW.region ?_
          refine LW.pure rfl rfl (RV.move rfl) ?_
          refine LW.pure rfl rfl (RV.add rfl rfl hg1) ?_
          refine LW.pure rfl rfl (RV.assign rfl) ?_
          refine LW.nil ?_
          subst hrec1
          refine ⟨mk1, Nat.lt_succ_self _, _, ?_, (t5_1 + 1), F, rfl, H⟩
          exact ⟨rfl, rfl, rfl, rfl, trivial⟩
        ·
          replace F := ite_n hp3 F
          have hq3 := dec_f hp3
          refine CW.condT rfl (not_t hq3) ?_
          refine CW.seq fun K11 hK11 => ?_
          refine CW.region ?_
          refine LW.pure rfl rfl (RV.assign rfl) ?_
          refine LW.nil (hK11 _ _ ?_)
          refine CW.ret ?_
          obtain rfl := Option.some.inj F
          refine ⟨_, (ResOK.one rfl), ?_⟩
          refine ⟨(by first | rfl | simp), R0⟩
      ·
        replace F := ite_n hp2 F
        have hq2 := dec_f hp2
        refine CW.condF rfl hq2 ?_
        refine CW.exit (jK59 _ _ ⟨_, ?_, ⟨F, rfl, H⟩⟩)
        exact ⟨rfl, trivial⟩
  ·
    replace F := ite_n hp1 F
    have hq1 := dec_f hp1
    refine CW.condT rfl (not_t hq1) ?_
    refine CW.seq fun K12 hK12 => ?_
    refine CW.region ?_
    refine LW.pure rfl rfl (RV.assign rfl) ?_
    refine LW.nil (hK12 _ _ ?_)
    refine CW.ret ?_
    obtain rfl := Option.some.inj F
    refine ⟨_, (ResOK.one rfl), ?_⟩
    refine ⟨(by first | rfl | simp), R0⟩
set_option maxRecDepth 20000 in
set_option maxHeartbeats 1000000 in
theorem ref01_SameLists_ok {a0 : List (List Int)} {a1 : List (List Int)} {A_a0 : Option Addr} {c_a0 : Nat} {A_a1 : Option Addr} {c_a1 : Nat} {w : World} {res : Bool} (h_a0 : Sl2 w A_a0 c_a0 1 encN a0) (h_a1 : Sl2 w A_a1 c_a1 1 encN a1) (F : ref01_SameLists a0 a1 = some res) : Calls Try.prog 51 #[.slice A_a0 a0.length c_a0, .slice A_a1 a1.length c_a1] w (Rt w (.bool res)) := by
  refine calls_of_cw (args := [.slice A_a0 a0.length c_a0, .slice A_a1 a1.length c_a1]) Try.func51 rfl rfl rfl rfl ?_
  have H := Hp.start w
  have R0 := H.ext
  unfold ref01_SameLists at F
  refine CW.seq fun K1 hK1 => ?_
  refine CW.region ?_
  refine LW.pure rfl rfl (RV.assign rfl) ?_
  refine LW.nil (hK1 _ _ ?_)
  refine CW.seq fun K2 hK2 => ?_
  refine CW.seq fun K3 hK3 => ?_
  refine CW.region ?_
  refine LW.pure rfl rfl (RV.move rfl) ?_
  refine LW.pure rfl rfl (RV.len Ts58 rfl) ?_
  refine LW.pure rfl rfl (RV.move rfl) ?_
  refine LW.pure rfl rfl (RV.len Ts58 rfl) ?_
  refine LW.pure rfl rfl (RV.nei rfl rfl) ?_
  refine LW.nil (hK3 _ _ ?_)
  by_cases hp1 : ((a0.length : Int)) = ((a1.length : Int))
  ·
    replace F := ite_y hp1 F
    have hq1 := dec_t hp1
    refine CW.condF rfl (not_f hq1) ?_
    refine CW.skip (hK2 _ _ ?_)
    refine CW.seqJ (fun ρ wl1 => (ref01_SameLists_k1 = some res ∧ ρ = [(4, .bool false)] ∧ Hp w wl1 [])) ?_ ?_
    ·
      rintro _ wl1 ⟨F, rfl, H⟩
      have R0 := H.ext
      unfold ref01_SameLists_k1 at F
      refine CW.seq fun K4 hK4 => ?_
      refine CW.region ?_
      refine LW.pure rfl rfl (RV.assign rfl) ?_
      refine LW.nil (hK4 _ _ ?_)
      refine CW.ret ?_
      obtain rfl := Option.some.inj F
      refine ⟨_, (ResOK.one rfl), ?_⟩
      refine ⟨(by first | rfl | simp), R0⟩
    ·
      intro K5 hK5 jK59
      refine CW.seq fun K6 hK6 => ?_
      refine CW.region ?_
      refine LW.pure rfl rfl (RV.assign rfl) ?_
      refine LW.nil (hK6 _ _ ?_)
      refine CW.block ?_
      refine CW.loop (fun meas ρ wl2 => ∃ (t5_1 : Int), ref01_SameLists_L1 a0 a1 meas t5_1 = some res ∧ ρ = [(0, .slice A_a0 a0.length c_a0), (1, .slice A_a1 a1.length c_a1), (4, .bool false), (5, .int .i64 t5_1)] ∧ Hp w wl2 []) FU ⟨_, ?_, ((0 : Int)), F, rfl, H⟩ ?_
      · exact ⟨rfl, rfl, rfl, rfl, trivial⟩
      rintro mk1 _ wl2 ⟨t5_1, F, rfl, H⟩
      have R0 := H.ext
      replace F := ref01_SameLists_L1_s F
      obtain ⟨mk1, rfl, F⟩ := F
      generalize hrec1 : ref01_SameLists_L1 a0 a1 mk1 = rec1 at F
      unfold ref01_SameLists_B1 at F
      refine CW.seq fun K7 hK7 => ?_
      refine CW.seq fun K8 hK8 => ?_
      refine CW.region ?_
      refine LW.pure rfl rfl (RV.move rfl) ?_
      refine LW.pure rfl rfl (RV.move rfl) ?_
      refine LW.pure rfl rfl (RV.len Ts58 rfl) ?_
      refine LW.pure rfl rfl (RV.lss rfl rfl) ?_
      refine LW.nil (hK8 _ _ ?_)
      by_cases hp2 : t5_1 < ((a0.length : Int))
      ·
        replace F := ite_y hp2 F
        have hq2 := dec_t hp2
        refine CW.condT rfl hq2 ?_
        refine CW.skip (hK7 _ _ ?_)
        refine CW.seq fun K9 hK9 => ?_
        refine CW.block ?_
        refine CW.seq fun K10 hK10 => ?_
        obtain ⟨x1, hbx1, hx1, F⟩ := ix_some F
        obtain ⟨x2, hbx2, hx2, F⟩ := ix_some F
        obtain ⟨r1, hr1, F⟩ := bnd_some F
        refine CW.draw [] (fun _ => True) (.cons 0 1 (.cons 1 1 (.cons 2 1 (.cons 3 1 (.cons 4 1 (.cons 5 1 (.cons 6 1 (.cons 7 1 (.cons 8 0 (.cons 9 1 .nil)))))))))) mixed (by kernel_rfl) fun w1 E1 => ?_
        replace H := H.grow E1
        replace R0 := H.ext
        refine DW.fix rfl rfl rfl (fun _ EQ => RV.move rfl) ?_
        refine DW.fix rfl rfl rfl (fun _ EQ => RV.move rfl) ?_
        obtain ⟨A1, c1, hC1, hS1⟩ := h_a0.at_ hx1
        refine DW.fix rfl rfl rfl (fun _ EQ => RV.indexAddr Ts58 rfl rfl hbx1 (h_a0.addr hbx1)) ?_
        refine DW.fix rfl rfl rfl (fun _ EQ => RV.load1 Tk43 rfl (hC1.ext (R0.trans EQ)) rfl) ?_
        refine DW.fix rfl rfl rfl (fun _ EQ => RV.move rfl) ?_
        refine DW.fix rfl rfl rfl (fun _ EQ => RV.move rfl) ?_
        obtain ⟨A2, c2, hC2, hS2⟩ := h_a1.at_ hx2
        refine DW.fix rfl rfl rfl (fun _ EQ => RV.indexAddr Ts58 rfl rfl hbx2 (h_a1.addr hbx2)) ?_
        refine DW.fix rfl rfl rfl (fun _ EQ => RV.load1 Tk43 rfl (hC2.ext (R0.trans EQ)) rfl) ?_
        refine DW.sole rfl rfl rfl (OW.call Tc79 rfl (ref01_SameInts_ok (a0 := x1) (a1 := x2) (hS1.ext R0) (hS2.ext R0) hr1) ?_)
        rintro _ w2 ⟨rfl, E2⟩
        refine ⟨_, rfl, fun _ => E2, ModX.ext E2, ?_⟩
        replace H := H.grow E2
        replace R0 := H.ext
        refine DW.fix rfl rfl rfl (fun _ EQ => RV.not rfl) ?_
        refine DW.nil (hK10 _ _ ?_)
        by_cases hp3 : r1 = true
        ·
          replace F := ite_y hp3 F
          have hq3 : r1 = true := hp3
          refine CW.condF rfl (not_f hq3) ?_
          refine CW.skip (hK9 _ _ ?_)
          obtain ⟨hg1, F⟩ := gd_some F
          refine CW.region ?_
          refine LW.pure rfl rfl (RV.move rfl) ?_
          refine LW.pure rfl rfl (RV.add rfl rfl hg1) ?_
          refine LW.pure rfl rfl (RV.assign rfl) ?_
          refine LW.nil ?_
          subst hrec1
          refine ⟨mk1, Nat.lt_succ_self _, _, ?_, (t5_1 + 1), F, rfl, H⟩
          exact ⟨rfl, rfl, rfl, rfl, trivial⟩
        ·
          replace F := ite_n hp3 F
          have hq3 : r1 = false := raw_f hp3
          refine CW.condT rfl (not_t hq3) ?_
          refine CW.seq fun K11 hK11 => ?_
          refine CW.region ?_
          refine LW.pure rfl rfl (RV.assign rfl) ?_
          refine LW.nil (hK11 _ _ ?_)
          refine CW.ret ?_
          obtain rfl := Option.some.inj F
          refine ⟨_, (ResOK.one rfl), ?_⟩
          refine ⟨(by first | rfl | simp), R0⟩
      ·
        replace F := ite_n hp2 F
        have hq2 := dec_f hp2
        refine CW.condF rfl hq2 ?_
        refine CW.exit (jK59 _ _ ⟨_, ?_, ⟨F, rfl, H⟩⟩)
        exact ⟨rfl, trivial⟩
  ·
    replace F := ite_n hp1 F
    have hq1 := dec_f hp1
    refine CW.condT rfl (not_t hq1) ?_
    refine CW.seq fun K12 hK12 => ?_
    refine CW.region ?_
    refine LW.pure rfl rfl (RV.assign rfl) ?_
    refine LW.nil (hK12 _ _ ?_)
    refine CW.ret ?_
    obtain rfl := Option.some.inj F
    refine ⟨_, (ResOK.one rfl), ?_⟩
    refine ⟨(by first | rfl | simp), R0⟩
set_option maxRecDepth 20000 in
set_option maxHeartbeats 1000000 in
theorem law03_CorePlains_ok {a0 : Core} {A_a0_bounds : Option Addr} {c_a0_bounds : Nat} {w : World} {res : Bool} (h_a0_bounds : Sl w A_a0_bounds c_a0_bounds 3 (a0.bounds.map encBound)) (F : law03_CorePlains a0 = some res) : Calls Try.prog 13 #[.agg #[.int .i64 a0.layers, .slice A_a0_bounds a0.bounds.length c_a0_bounds]] w (Rt w (.bool res)) := by
  refine calls_of_cw (args := [.agg #[.int .i64 a0.layers, .slice A_a0_bounds a0.bounds.length c_a0_bounds]]) Try.func13 rfl rfl rfl rfl ?_
  have H := Hp.start w
  have R0 := H.ext
  unfold law03_CorePlains at F
  refine CW.seq fun K1 hK1 => ?_
  refine CW.region ?_
  refine LW.go rfl rfl (OW.box rfl fun b1 w1 N1 => ?_)
  replace H := H.new N1 N1.blk
  replace R0 := H.ext
  refine LW.pure rfl rfl (RV.assign rfl) ?_
  refine LW.nil (hK1 _ _ ?_)
  refine CW.seq fun K2 hK2 => ?_
  refine CW.seq fun K3 hK3 => ?_
  obtain ⟨r1, hr1, F⟩ := bnd_some F
  refine CW.region ?_
  refine LW.pure rfl rfl (RV.loadA [.int .i64 a0.layers, .slice A_a0_bounds a0.bounds.length c_a0_bounds] Tk24 rfl (H.blk 0 rfl).cells rfl rfl) ?_
  refine LW.go rfl rfl (OW.call Tc17 rfl (law03_Long_ok (a0 := a0) (h_a0_bounds.ext R0) hr1) ?_)
  rintro _ w2 ⟨rfl, E1⟩
  refine ⟨_, rfl, ?_⟩
  replace H := H.grow E1
  replace R0 := H.ext
  refine LW.nil (hK3 _ _ ?_)
  by_cases hp1 : r1 = true
  ·
    replace F := ite_y hp1 F
    have hq1 : r1 = true := hp1
    refine CW.condT rfl hq1 ?_
    refine CW.seq fun K4 hK4 => ?_
    obtain ⟨r2, hr2, F⟩ := bnd_some F
    refine CW.region ?_
    refine LW.go rfl rfl (OW.call Tc18 rfl (law03_known_ok hr2) ?_)
    rintro _ w3 ⟨rfl, E2⟩
    refine ⟨_, rfl, ?_⟩
    replace H := H.grow E2
    replace R0 := H.ext
    refine LW.pure rfl rfl (RV.assign rfl) ?_
    refine LW.nil (hK4 _ _ ?_)
    refine CW.ret ?_
    obtain rfl := Option.some.inj F
    refine ⟨_, (ResOK.one rfl), ?_⟩
    refine ⟨(by first | rfl | simp), R0⟩
  ·
    replace F := ite_n hp1 F
    have hq1 : r1 = false := raw_f hp1
    refine CW.condF rfl hq1 ?_
    refine CW.skip (hK2 _ _ ?_)
    refine CW.seq fun K5 hK5 => ?_
    obtain ⟨r3, hr3, F⟩ := bnd_some F
    refine CW.region ?_
    refine LW.pure rfl rfl (RV.loadA [.int .i64 a0.layers, .slice A_a0_bounds a0.bounds.length c_a0_bounds] Tk24 rfl (H.blk 0 rfl).cells rfl rfl) ?_
    refine LW.go rfl rfl (OW.call Tc47 rfl (core_Groups_ok (a0 := a0) (h_a0_bounds.ext R0) hr3) ?_)
    rintro _ w4 ⟨A15_0, c15_0, hs15_0, rfl, E3⟩
    refine ⟨_, rfl, ?_⟩
    replace H : Hp w w4 [.tab A15_0 c15_0 43 hs15_0 3 1 (encM encN r3.1), .blk b1 24 [.int .i64 a0.layers, .slice A_a0_bounds a0.bounds.length c_a0_bounds]] := H.append E3
    replace R0 := H.ext
    refine LW.pure rfl rfl (RV.move rfl) ?_
    refine LW.pure rfl rfl (RV.extract rfl rfl) ?_
    refine LW.pure rfl rfl (RV.extract rfl rfl) ?_
    refine LW.pure rfl rfl (RV.assign rfl) ?_
    refine LW.pure rfl rfl (RV.assign rfl) ?_
    refine LW.nil (hK5 _ _ ?_)
    refine CW.seq fun K6 hK6 => ?_
    obtain ⟨r4, hr4, F⟩ := bnd_some F
    refine CW.region ?_
    refine LW.pure rfl rfl (RV.loadA [.int .i64 a0.layers, .slice A_a0_bounds a0.bounds.length c_a0_bounds] Tk24 rfl (H.blk 1 rfl).cells rfl rfl) ?_
    refine LW.go rfl rfl (OW.call Tc48 rfl (ref03_Groups_ok (a0 := a0) (h_a0_bounds.ext R0) hr4) ?_)
    rintro _ w5 ⟨A17_0, c17_0, hs17_0, rfl, E4⟩
    refine ⟨_, rfl, ?_⟩
    replace H : Hp w w5 [.tab A17_0 c17_0 43 hs17_0 3 1 (encM encN r4.1), .tab A15_0 c15_0 43 hs15_0 3 1 (encM encN r3.1), .blk b1 24 [.int .i64 a0.layers, .slice A_a0_bounds a0.bounds.length c_a0_bounds]] := H.append E4
    replace R0 := H.ext
    refine LW.pure rfl rfl (RV.move rfl) ?_
    refine LW.pure rfl rfl (RV.extract rfl rfl) ?_
    refine LW.pure rfl rfl (RV.extract rfl rfl) ?_
    refine LW.pure rfl rfl (RV.assign rfl) ?_
    refine LW.pure rfl rfl (RV.assign rfl) ?_
    refine LW.nil (hK6 _ _ ?_)
    refine CW.seq fun K7 hK7 => ?_
    obtain ⟨r5, hr5, F⟩ := bnd_some F
    refine CW.region ?_
    refine LW.pure rfl rfl (RV.loadA [.int .i64 a0.layers, .slice A_a0_bounds a0.bounds.length c_a0_bounds] Tk24 rfl (H.blk 2 rfl).cells rfl rfl) ?_
    refine LW.go rfl rfl (OW.call Tc49 rfl (core_Plain_ok (a0 := a0) (h_a0_bounds.ext R0) hr5) ?_)
    rintro _ w6 ⟨A19_0, c19_0, rfl, E5⟩
    refine ⟨_, rfl, ?_⟩
    replace H : Hp w w6 [.own A19_0 c19_0 26 3 (List.map encBound r5.1), .tab A17_0 c17_0 43 hs17_0 3 1 (encM encN r4.1), .tab A15_0 c15_0 43 hs15_0 3 1 (encM encN r3.1), .blk b1 24 [.int .i64 a0.layers, .slice A_a0_bounds a0.bounds.length c_a0_bounds]] := H.append E5
    replace R0 := H.ext
    refine LW.pure rfl rfl (RV.move rfl) ?_
    refine LW.pure rfl rfl (RV.extract rfl rfl) ?_
    refine LW.pure rfl rfl (RV.extract rfl rfl) ?_
    refine LW.pure rfl rfl (RV.assign rfl) ?_
    refine LW.pure rfl rfl (RV.assign rfl) ?_
    refine LW.nil (hK7 _ _ ?_)
    refine CW.seq fun K8 hK8 => ?_
    obtain ⟨r6, hr6, F⟩ := bnd_some F
    refine CW.region ?_
    refine LW.pure rfl rfl (RV.loadA [.int .i64 a0.layers, .slice A_a0_bounds a0.bounds.length c_a0_bounds] Tk24 rfl (H.blk 3 rfl).cells rfl rfl) ?_
    refine LW.go rfl rfl (OW.call Tc50 rfl (ref03_Plain_ok (a0 := a0) (h_a0_bounds.ext R0) hr6) ?_)
    rintro _ w7 ⟨A21_0, c21_0, rfl, E6⟩
    refine ⟨_, rfl, ?_⟩
    replace H : Hp w w7 [.own A21_0 c21_0 26 3 (List.map encBound r6.1), .own A19_0 c19_0 26 3 (List.map encBound r5.1), .tab A17_0 c17_0 43 hs17_0 3 1 (encM encN r4.1), .tab A15_0 c15_0 43 hs15_0 3 1 (encM encN r3.1), .blk b1 24 [.int .i64 a0.layers, .slice A_a0_bounds a0.bounds.length c_a0_bounds]] := H.append E6
    replace R0 := H.ext
    refine LW.pure rfl rfl (RV.move rfl) ?_
    refine LW.pure rfl rfl (RV.extract rfl rfl) ?_
    refine LW.pure rfl rfl (RV.extract rfl rfl) ?_
    refine LW.pure rfl rfl (RV.assign rfl) ?_
    refine LW.pure rfl rfl (RV.assign rfl) ?_
    refine LW.nil (hK8 _ _ ?_)
    refine CW.seq fun K9 hK9 => ?_
    obtain ⟨r7, hr7, F⟩ := bnd_some F
    by_cases hp2 : r7 = true
    ·
      replace F := ite_y hp2 F
      have hq2 : r7 = true := hp2
      by_cases hp3 : r3.2 = r4.2
      ·
        replace F := ite_y hp3 F
        have hq3 := dec_t hp3
        obtain ⟨r8, hr8, F⟩ := bnd_some F
        by_cases hp4 : r8 = true
        ·
          replace F := ite_y hp4 F
          have hq4 : r8 = true := hp4
          by_cases hp5 : r5.2 = r6.2
          ·
            replace F := ite_y hp5 F
            have hq5 := dec_t hp5
            obtain ⟨r9, hr9, F⟩ := bnd_some F
            refine CW.region ?_
            refine LW.pure rfl rfl (RV.move rfl) ?_
            refine LW.pure rfl rfl (RV.move rfl) ?_
            refine LW.go rfl rfl (OW.call Tc51 rfl (ref01_SameLists_ok (a0 := r3.1) (a1 := r4.1) (H.tab 3 rfl).sl2 (H.tab 2 rfl).sl2 hr7) ?_)
            rintro _ w8 ⟨rfl, E7⟩
            refine ⟨_, rfl, ?_⟩
            replace H := H.grow E7
            replace R0 := H.ext
            refine LW.pure rfl rfl (RV.move rfl) ?_
            refine LW.pureYB rfl rfl rfl rfl hq2 (RV.move rfl) ?_
            refine LW.pureYB rfl rfl rfl rfl hq2 (RV.move rfl) ?_
            refine LW.pureYB rfl rfl rfl rfl hq2 (RV.eqi rfl rfl) ?_
            refine LW.pure rfl rfl (RV.pickTB rfl hq2 rfl) ?_
            refine LW.pure rfl rfl (RV.move rfl) ?_
            refine LW.pureYB rfl rfl rfl rfl hq3 (RV.move rfl) ?_
            refine LW.pureYB rfl rfl rfl rfl hq3 (RV.move rfl) ?_
            refine LW.yesB rfl rfl rfl rfl hq3 (OW.call Tc52 rfl (ref03_SameBounds_ok (a0 := r5.1) (a1 := r6.1) (H.own 1 rfl).sl (H.own 0 rfl).sl hr8) ?_)
            rintro _ w9 ⟨rfl, E8⟩
            refine ⟨_, rfl, ?_⟩
            replace H := H.grow E8
            replace R0 := H.ext
            refine LW.pure rfl rfl (RV.pickTB rfl hq3 rfl) ?_
            refine LW.pure rfl rfl (RV.move rfl) ?_
            refine LW.pureYB rfl rfl rfl rfl hq4 (RV.move rfl) ?_
            refine LW.pureYB rfl rfl rfl rfl hq4 (RV.move rfl) ?_
            refine LW.pureYB rfl rfl rfl rfl hq4 (RV.eqi rfl rfl) ?_
            refine LW.pure rfl rfl (RV.pickTB rfl hq4 rfl) ?_
            refine LW.pure rfl rfl (RV.move rfl) ?_
            refine LW.yesB rfl rfl rfl rfl hq5 (OW.call Tc18 rfl (law03_known_ok hr9) ?_)
            rintro _ w10 ⟨rfl, E9⟩
            refine ⟨_, rfl, ?_⟩
            replace H := H.grow E9
            replace R0 := H.ext
            refine LW.pure rfl rfl (RV.pickTB rfl hq5 rfl) ?_
            refine LW.pure rfl rfl (RV.assign rfl) ?_
            refine LW.nil (hK9 _ _ ?_)
            refine CW.ret ?_
            obtain rfl := Option.some.inj F
            refine ⟨_, (ResOK.one rfl), ?_⟩
            refine ⟨(by first | rfl | simp), R0⟩
          ·
            replace F := ite_n hp5 F
            have hq5 := dec_f hp5
            refine CW.region ?_
            refine LW.pure rfl rfl (RV.move rfl) ?_
            refine LW.pure rfl rfl (RV.move rfl) ?_
            refine LW.go rfl rfl (OW.call Tc51 rfl (ref01_SameLists_ok (a0 := r3.1) (a1 := r4.1) (H.tab 3 rfl).sl2 (H.tab 2 rfl).sl2 hr7) ?_)
            rintro _ w11 ⟨rfl, E10⟩
            refine ⟨_, rfl, ?_⟩
            replace H := H.grow E10
            replace R0 := H.ext
            refine LW.pure rfl rfl (RV.move rfl) ?_
            refine LW.pureYB rfl rfl rfl rfl hq2 (RV.move rfl) ?_
            refine LW.pureYB rfl rfl rfl rfl hq2 (RV.move rfl) ?_
            refine LW.pureYB rfl rfl rfl rfl hq2 (RV.eqi rfl rfl) ?_
            refine LW.pure rfl rfl (RV.pickTB rfl hq2 rfl) ?_
            refine LW.pure rfl rfl (RV.move rfl) ?_
            refine LW.pureYB rfl rfl rfl rfl hq3 (RV.move rfl) ?_
            refine LW.pureYB rfl rfl rfl rfl hq3 (RV.move rfl) ?_
            refine LW.yesB rfl rfl rfl rfl hq3 (OW.call Tc52 rfl (ref03_SameBounds_ok (a0 := r5.1) (a1 := r6.1) (H.own 1 rfl).sl (H.own 0 rfl).sl hr8) ?_)
            rintro _ w12 ⟨rfl, E11⟩
            refine ⟨_, rfl, ?_⟩
            replace H := H.grow E11
            replace R0 := H.ext
            refine LW.pure rfl rfl (RV.pickTB rfl hq3 rfl) ?_
            refine LW.pure rfl rfl (RV.move rfl) ?_
            refine LW.pureYB rfl rfl rfl rfl hq4 (RV.move rfl) ?_
            refine LW.pureYB rfl rfl rfl rfl hq4 (RV.move rfl) ?_
            refine LW.pureYB rfl rfl rfl rfl hq4 (RV.eqi rfl rfl) ?_
            refine LW.pure rfl rfl (RV.pickTB rfl hq4 rfl) ?_
            refine LW.pure rfl rfl (RV.move rfl) ?_
            refine LW.noB rfl rfl rfl rfl (ne_beq (v := false) hq5 rfl) ?_
            refine LW.pure rfl rfl (RV.pickFB rfl hq5 rfl) ?_
            refine LW.pure rfl rfl (RV.assign rfl) ?_
            refine LW.nil (hK9 _ _ ?_)
            refine CW.ret ?_
            obtain rfl := Option.some.inj F
            refine ⟨_, (ResOK.one rfl), ?_⟩
            refine ⟨(by first | rfl | simp), R0⟩
        ·
          replace F := ite_n hp4 F
          have hq4 : r8 = false := raw_f hp4
          refine CW.region ?_
          refine LW.pure rfl rfl (RV.move rfl) ?_
          refine LW.pure rfl rfl (RV.move rfl) ?_
          refine LW.go rfl rfl (OW.call Tc51 rfl (ref01_SameLists_ok (a0 := r3.1) (a1 := r4.1) (H.tab 3 rfl).sl2 (H.tab 2 rfl).sl2 hr7) ?_)
          rintro _ w13 ⟨rfl, E12⟩
          refine ⟨_, rfl, ?_⟩
          replace H := H.grow E12
          replace R0 := H.ext
          refine LW.pure rfl rfl (RV.move rfl) ?_
          refine LW.pureYB rfl rfl rfl rfl hq2 (RV.move rfl) ?_
          refine LW.pureYB rfl rfl rfl rfl hq2 (RV.move rfl) ?_
          refine LW.pureYB rfl rfl rfl rfl hq2 (RV.eqi rfl rfl) ?_
          refine LW.pure rfl rfl (RV.pickTB rfl hq2 rfl) ?_
          refine LW.pure rfl rfl (RV.move rfl) ?_
          refine LW.pureYB rfl rfl rfl rfl hq3 (RV.move rfl) ?_
          refine LW.pureYB rfl rfl rfl rfl hq3 (RV.move rfl) ?_
          refine LW.yesB rfl rfl rfl rfl hq3 (OW.call Tc52 rfl (ref03_SameBounds_ok (a0 := r5.1) (a1 := r6.1) (H.own 1 rfl).sl (H.own 0 rfl).sl hr8) ?_)
          rintro _ w14 ⟨rfl, E13⟩
          refine ⟨_, rfl, ?_⟩
          replace H := H.grow E13
          replace R0 := H.ext
          refine LW.pure rfl rfl (RV.pickTB rfl hq3 rfl) ?_
          refine LW.pure rfl rfl (RV.move rfl) ?_
          refine LW.noB rfl rfl rfl rfl (ne_beq (v := false) hq4 rfl) ?_
          refine LW.noB rfl rfl rfl rfl (ne_beq (v := false) hq4 rfl) ?_
          refine LW.noB rfl rfl rfl rfl (ne_beq (v := false) hq4 rfl) ?_
          refine LW.pure rfl rfl (RV.pickFB rfl hq4 rfl) ?_
          refine LW.pure rfl rfl (RV.move rfl) ?_
          refine LW.noB rfl rfl rfl rfl (ne_beq (v := false) rfl rfl) ?_
          refine LW.pure rfl rfl (RV.pickFB rfl rfl rfl) ?_
          refine LW.pure rfl rfl (RV.assign rfl) ?_
          refine LW.nil (hK9 _ _ ?_)
          refine CW.ret ?_
          obtain rfl := Option.some.inj F
          refine ⟨_, (ResOK.one rfl), ?_⟩
          refine ⟨(by first | rfl | simp), R0⟩
      ·
        replace F := ite_n hp3 F
        have hq3 := dec_f hp3
        refine CW.region ?_
        refine LW.pure rfl rfl (RV.move rfl) ?_
        refine LW.pure rfl rfl (RV.move rfl) ?_
        refine LW.go rfl rfl (OW.call Tc51 rfl (ref01_SameLists_ok (a0 := r3.1) (a1 := r4.1) (H.tab 3 rfl).sl2 (H.tab 2 rfl).sl2 hr7) ?_)
        rintro _ w15 ⟨rfl, E14⟩
        refine ⟨_, rfl, ?_⟩
        replace H := H.grow E14
        replace R0 := H.ext
        refine LW.pure rfl rfl (RV.move rfl) ?_
        refine LW.pureYB rfl rfl rfl rfl hq2 (RV.move rfl) ?_
        refine LW.pureYB rfl rfl rfl rfl hq2 (RV.move rfl) ?_
        refine LW.pureYB rfl rfl rfl rfl hq2 (RV.eqi rfl rfl) ?_
        refine LW.pure rfl rfl (RV.pickTB rfl hq2 rfl) ?_
        refine LW.pure rfl rfl (RV.move rfl) ?_
        refine LW.noB rfl rfl rfl rfl (ne_beq (v := false) hq3 rfl) ?_
        refine LW.noB rfl rfl rfl rfl (ne_beq (v := false) hq3 rfl) ?_
        refine LW.noB rfl rfl rfl rfl (ne_beq (v := false) hq3 rfl) ?_
        refine LW.pure rfl rfl (RV.pickFB rfl hq3 rfl) ?_
        refine LW.pure rfl rfl (RV.move rfl) ?_
        refine LW.noB rfl rfl rfl rfl (ne_beq (v := false) rfl rfl) ?_
        refine LW.noB rfl rfl rfl rfl (ne_beq (v := false) rfl rfl) ?_
        refine LW.noB rfl rfl rfl rfl (ne_beq (v := false) rfl rfl) ?_
        refine LW.pure rfl rfl (RV.pickFB rfl rfl rfl) ?_
        refine LW.pure rfl rfl (RV.move rfl) ?_
        refine LW.noB rfl rfl rfl rfl (ne_beq (v := false) rfl rfl) ?_
        refine LW.pure rfl rfl (RV.pickFB rfl rfl rfl) ?_
        refine LW.pure rfl rfl (RV.assign rfl) ?_
        refine LW.nil (hK9 _ _ ?_)
        refine CW.ret ?_
        obtain rfl := Option.some.inj F
        refine ⟨_, (ResOK.one rfl), ?_⟩
        refine ⟨(by first | rfl | simp), R0⟩
    ·
      replace F := ite_n hp2 F
      have hq2 : r7 = false := raw_f hp2
      refine CW.region ?_
      refine LW.pure rfl rfl (RV.move rfl) ?_
      refine LW.pure rfl rfl (RV.move rfl) ?_
      refine LW.go rfl rfl (OW.call Tc51 rfl (ref01_SameLists_ok (a0 := r3.1) (a1 := r4.1) (H.tab 3 rfl).sl2 (H.tab 2 rfl).sl2 hr7) ?_)
      rintro _ w16 ⟨rfl, E15⟩
      refine ⟨_, rfl, ?_⟩
      replace H := H.grow E15
      replace R0 := H.ext
      refine LW.pure rfl rfl (RV.move rfl) ?_
      refine LW.noB rfl rfl rfl rfl (ne_beq (v := false) hq2 rfl) ?_
      refine LW.noB rfl rfl rfl rfl (ne_beq (v := false) hq2 rfl) ?_
      refine LW.noB rfl rfl rfl rfl (ne_beq (v := false) hq2 rfl) ?_
      refine LW.pure rfl rfl (RV.pickFB rfl hq2 rfl) ?_
      refine LW.pure rfl rfl (RV.move rfl) ?_
      refine LW.noB rfl rfl rfl rfl (ne_beq (v := false) rfl rfl) ?_
      refine LW.noB rfl rfl rfl rfl (ne_beq (v := false) rfl rfl) ?_
      refine LW.noB rfl rfl rfl rfl (ne_beq (v := false) rfl rfl) ?_
      refine LW.pure rfl rfl (RV.pickFB rfl rfl rfl) ?_
      refine LW.pure rfl rfl (RV.move rfl) ?_
      refine LW.noB rfl rfl rfl rfl (ne_beq (v := false) rfl rfl) ?_
      refine LW.noB rfl rfl rfl rfl (ne_beq (v := false) rfl rfl) ?_
      refine LW.noB rfl rfl rfl rfl (ne_beq (v := false) rfl rfl) ?_
      refine LW.pure rfl rfl (RV.pickFB rfl rfl rfl) ?_
      refine LW.pure rfl rfl (RV.move rfl) ?_
      refine LW.noB rfl rfl rfl rfl (ne_beq (v := false) rfl rfl) ?_
      refine LW.pure rfl rfl (RV.pickFB rfl rfl rfl) ?_
      refine LW.pure rfl rfl (RV.assign rfl) ?_
      refine LW.nil (hK9 _ _ ?_)
      refine CW.ret ?_
      obtain rfl := Option.some.inj F
      refine ⟨_, (ResOK.one rfl), ?_⟩
      refine ⟨(by first | rfl | simp), R0⟩
end Go.D3

set_option linter.unusedVariables false
set_option linter.unusedSimpArgs false
namespace Go.D3
open Go.Tb Go.Core
theorem tighter_eq (t o : Tight) : core_tight_tighter t o = some (tighter t o) := by
  unfold core_tight_tighter core_tight_tighter_k1 tighter
  cases t with
  | mk k m => cases o with
    | mk k2 m2 =>
      cases k <;> cases k2 <;> simp
      split <;> rfl
theorem over_eq (t o : Tight) (h : InR (t.most + o.most)) : core_tight_over t o = some (tover t o) := by
  unfold core_tight_over tover
  cases t with
  | mk k m =>
    cases k
    · simp only [Bool.false_eq_true, if_false, Bool.false_and]; rw [gd_pos h]
    · simp only [if_true, Bool.true_and]; rw [gd_pos h]
end Go.D3
namespace Go.Core
open Go.Tb Go.D3
theorem Sq.atC {n : Nat} {m : TM} (h : Sq n m) {i j : Nat} (hi : i < n) (hj : j < n) : ∃ r, m[i]? = some r ∧ r[j]? = some (mg m i j) := by
  obtain ⟨r, hr⟩ := ex_at (l := m) (j := i) (by rw [h.len]; exact hi)
  obtain ⟨t, ht⟩ := ex_at (l := r) (j := j) (by rw [h.rowAt hr]; exact hj)
  exact ⟨r, hr, by rw [mg_of hr ht]; exact ht⟩
end Go.Core
namespace Go.D3
open Go.Tb Go.Core
theorem fwJ_eq {c : Core} (hv : validate c = 0) {p : Nat → Int} (hp : Pot c p) {k i : Nat} (hk : k < c.layers.toNat) (hi : i < c.layers.toNat) (rec2 : Int → TM → Option TM) :
    core_table_L1 c (k : Int) (i : Int) rec2 FU 0 (fwI c.layers.toNat (tK c k) k i) = core_table_k3 (i : Int) rec2 (fwI c.layers.toNat (tK c k) k (i + 1)) := by
  have hvo := validate_ok hv
  refine for_loop0 c.layers.toNat (fun j => fwJ (fwI c.layers.toNat (tK c k) k i) k i j) (fun n m t => core_table_L1 c (k : Int) (i : Int) rec2 n t m) _ (fun n j hj => ?_) (fun n => ?_) (by omega)
  · have hI := tR_inv hv hp hk hi (Nat.le_of_lt hj)
    show core_table_B1 c (k : Int) (i : Int) rec2 (core_table_L1 c (k : Int) (i : Int) rec2 n) _ _ = core_table_L1 c (k : Int) (i : Int) rec2 n _ (fwAt (fwJ (fwI c.layers.toNat (tK c k) k i) k i j) k i j)
    generalize fwJ (fwI c.layers.toNat (tK c k) k i) k i j = m at *
    obtain ⟨r1, h1, h1j⟩ := hI.sq.atC hi hj
    obtain ⟨r1', h1', h1k⟩ := hI.sq.atC hi hk
    obtain ⟨r2, h2, h2j⟩ := hI.sq.atC hk hj
    rw [h1] at h1'
    cases h1'
    have b1 := hI.bnd i k hi hk
    have b2 := hI.bnd k j hk hj
    unfold core_table_B1
    rw [if_pos (by omega), ix_nat h1, ix_nat h1, ix_nat h1j, ix_nat h1, ix_nat h1k, ix_nat h2, ix_nat h2j, bnd_eq (over_eq _ _ (by omega)), bnd_eq (tighter_eq _ _), ix_nat h1j, gd_pos (by omega), fwAt_of h1 h1 h1j h1 h1k h2 h2j]; rfl
  · show core_table_B1 c (k : Int) (i : Int) rec2 (core_table_L1 c (k : Int) (i : Int) rec2 n) _ _ = _
    unfold core_table_B1
    rw [if_neg (by omega)]; rfl
theorem fwI_eq {c : Core} (hv : validate c = 0) {p : Nat → Int} (hp : Pot c p) {k : Nat} (hk : k < c.layers.toNat) (rec1 : Int → TM → Option TM) :
    core_table_L2 c (k : Int) rec1 FU 0 (tK c k) = core_table_k2 (k : Int) rec1 (tK c (k + 1)) := by
  have hvo := validate_ok hv
  refine for_loop0 c.layers.toNat (fun i => fwI c.layers.toNat (tK c k) k i) (fun n m t => core_table_L2 c (k : Int) rec1 n t m) _ (fun n i hi => ?_) (fun n => ?_) (by omega)
  · show core_table_B2 c (k : Int) rec1 (core_table_L2 c (k : Int) rec1 n) _ _ = _
    unfold core_table_B2
    rw [if_pos (by omega), fwJ_eq hv hp hk hi]
    unfold core_table_k3
    rw [gd_pos (by omega)]; rfl
  · show core_table_B2 c (k : Int) rec1 (core_table_L2 c (k : Int) rec1 n) _ _ = _
    unfold core_table_B2
    rw [if_neg (by omega)]; rfl
theorem fwK_eq {c : Core} (hv : validate c = 0) {p : Nat → Int} (hp : Pot c p) : core_table_L3 c FU 0 (tK c 0) = some (table c) := by
  have hvo := validate_ok hv
  refine for_loop0 c.layers.toNat (fun k => tK c k) (fun n m t => core_table_L3 c n t m) _ (fun n k hk => ?_) (fun n => ?_) (by omega)
  · show core_table_B3 c (core_table_L3 c n) _ _ = _
    unfold core_table_B3
    rw [if_pos (by omega), fwI_eq hv hp hk]
    unfold core_table_k2
    rw [gd_pos (by omega)]; rfl
  · show core_table_B3 c (core_table_L3 c n) _ _ = _
    unfold core_table_B3
    rw [if_neg (by omega)]; rfl
theorem tB_eq {c : Core} (hv : validate c = 0) {p : Nat → Int} (hp : Pot c p) : core_table_L4 c FU 0 (tI c.layers.toNat c.layers.toNat) = some (table c) := by
  have hvo := validate_ok hv
  rw [← fwK_eq hv hp]
  refine for_loop0 c.bounds.length (fun j => tB c.layers.toNat c.bounds j) (fun n m t => core_table_L4 c n t m) _ (fun n j hj => ?_) (fun n => ?_) (by omega)
  · obtain ⟨x, hx⟩ := ex_at hj
    have hb := bound_ok hv hx
    have hI := tB_inv hv hp j
    show core_table_B4 c (core_table_L4 c n) _ _ = _
    rw [tB_succ hx]
    generalize tB c.layers.toNat c.bounds j = m at *
    obtain ⟨r1, h1, h1j⟩ := hI.sq.atC (i := x.a.toNat) (j := x.b.toNat) (by omega) (by omega)
    unfold core_table_B4
    rw [if_pos (by omega), ix_nat hx, ix_eq hb.1 h1, ix_eq hb.1 h1, ix_eq hb.2.2.1 h1j, bnd_eq (tighter_eq _ _), ix_eq hb.2.2.1 h1j, gd_pos (by omega), put_of h1]; rfl
  · show core_table_B4 c (core_table_L4 c n) _ _ = _
    unfold core_table_B4
    rw [if_neg (by omega)]; rfl
theorem table_eq {c : Core} (hv : validate c = 0) {p : Nat → Int} (hp : Pot c p) : core_table c = some (table c) := by
  have hvo := validate_ok hv
  unfold core_table
  rw [gd_pos (by omega), ← tB_eq hv hp]
  refine for_loop0 c.layers.toNat (fun i => tI c.layers.toNat i) (fun n m t => core_table_L5 c n t m) _ (fun n i hi => ?_) (fun n => ?_) (by omega)
  · have hl := tI_len c.layers.toNat i
    obtain ⟨r, hr⟩ := ex_at (l := tI c.layers.toNat i) (j := i) (by omega)
    show core_table_B5 c (core_table_L5 c n) _ _ = core_table_L5 c n _ ((tI c.layers.toNat i).set i ((List.replicate c.layers.toNat ⟨false, 0⟩).set i ⟨true, 0⟩))
    generalize tI c.layers.toNat i = m at *
    have h2 : (m.set i (List.replicate c.layers.toNat (⟨false, 0⟩ : Tight)))[i]? = some (List.replicate c.layers.toNat ⟨false, 0⟩) := List.getElem?_set_self (by omega)
    have h3 : (List.replicate c.layers.toNat (⟨false, 0⟩ : Tight))[i]? = some ⟨false, 0⟩ := by simp [List.getElem?_replicate, hi]
    unfold core_table_B5
    rw [if_pos (by simp; omega), gd_pos (by omega), ix_nat hr, Int.toNat_natCast, ix_nat h2, ix_nat h3, gd_pos (by omega), List.set_set]; rfl
  · show core_table_B5 c (core_table_L5 c n) _ _ = _
    unfold core_table_B5
    rw [if_neg (by simp)]; rfl
theorem tables_eq {c : Core} (hv : validate c = 0) : core_tables c = some (tables c) := by
  unfold core_tables tables
  rw [bnd_eq (clashes_eq hv)]
  cases hc : clashes c
  · rw [if_neg (by simp), bnd_eq (table_eq hv (pot_of hv hc))]; rfl
  · rfl
end Go.D3

set_option linter.unusedVariables false
set_option linter.unusedSimpArgs false
namespace Go.D3
open Go.Tb Go.Core Go.D3s
section
variable (f : Nat → Nat → Bool) (g : Nat → Nat → Int)
def one (a b : Nat) : List Bound := if (!decide (a = b) && f a b) = true then [⟨(a : Int), (b : Int), g a b⟩] else []
def rowP (a : Nat) : Nat → List Bound
  | 0 => []
  | b + 1 => rowP a b ++ one f g a b
def allP (n : Nat) : Nat → List Bound
  | 0 => []
  | a + 1 => allP n a ++ rowP f g a n
def colP (b : Nat) : Nat → List Bound
  | 0 => []
  | a + 1 => colP b a ++ one f g a b
def allC (n : Nat) : Nat → List Bound
  | 0 => []
  | b + 1 => allC n b ++ colP f g b n
def isP (n m : Nat) (x : Bound) : Prop := ∃ a b : Nat, a < n ∧ b < m ∧ a ≠ b ∧ f a b = true ∧ x = ⟨(a : Int), (b : Int), g a b⟩
variable {f g}
theorem mem_one {a b : Nat} {x : Bound} : x ∈ one f g a b ↔ a ≠ b ∧ f a b = true ∧ x = ⟨(a : Int), (b : Int), g a b⟩ := by
  unfold one
  split
  · rename_i h
    simp only [Bool.and_eq_true, Bool.not_eq_true', decide_eq_false_iff_not] at h
    simp [h]
  · rename_i h
    simp only [Bool.and_eq_true, Bool.not_eq_true', decide_eq_false_iff_not] at h
    constructor
    · intro hx; simp at hx
    · rintro ⟨h1, h2, _⟩; exact absurd ⟨h1, h2⟩ h
theorem mem_rowP {a : Nat} {x : Bound} : ∀ {m : Nat}, x ∈ rowP f g a m ↔ ∃ b, b < m ∧ a ≠ b ∧ f a b = true ∧ x = ⟨(a : Int), (b : Int), g a b⟩
  | 0 => by simp [rowP]
  | m + 1 => by
    unfold rowP
    rw [List.mem_append, mem_rowP, mem_one]
    constructor
    · rintro (⟨b, h1, h2⟩ | h)
      · exact ⟨b, by omega, h2⟩
      · exact ⟨m, by omega, h⟩
    · rintro ⟨b, h1, h2⟩
      by_cases hb : b = m
      · subst hb; exact .inr h2
      · exact .inl ⟨b, by omega, h2⟩
theorem mem_colP {b : Nat} {x : Bound} : ∀ {n : Nat}, x ∈ colP f g b n ↔ ∃ a, a < n ∧ a ≠ b ∧ f a b = true ∧ x = ⟨(a : Int), (b : Int), g a b⟩
  | 0 => by simp [colP]
  | n + 1 => by
    unfold colP
    rw [List.mem_append, mem_colP, mem_one]
    constructor
    · rintro (⟨a, h1, h2⟩ | h)
      · exact ⟨a, by omega, h2⟩
      · exact ⟨n, by omega, h⟩
    · rintro ⟨a, h1, h2⟩
      by_cases hb : a = n
      · subst hb; exact .inr h2
      · exact .inl ⟨a, by omega, h2⟩
theorem mem_allP {m : Nat} {x : Bound} : ∀ {n : Nat}, x ∈ allP f g m n ↔ isP f g n m x
  | 0 => by simp [allP, isP]
  | n + 1 => by
    unfold allP
    rw [List.mem_append, mem_allP, mem_rowP]
    constructor
    · rintro (⟨a, b, h1, h2⟩ | ⟨b, h1, h2⟩)
      · exact ⟨a, b, by omega, h2⟩
      · exact ⟨n, b, by omega, h1, h2⟩
    · rintro ⟨a, b, h1, h2, h3⟩
      by_cases ha : a = n
      · subst ha; exact .inr ⟨b, h2, h3⟩
      · exact .inl ⟨a, b, by omega, h2, h3⟩
theorem mem_allC {n : Nat} {x : Bound} : ∀ {m : Nat}, x ∈ allC f g n m ↔ isP f g n m x
  | 0 => by simp [allC, isP]
  | m + 1 => by
    unfold allC
    rw [List.mem_append, mem_allC, mem_colP]
    constructor
    · rintro (⟨a, b, h1, h2, h3⟩ | ⟨a, h1, h2⟩)
      · exact ⟨a, b, h1, by omega, h3⟩
      · exact ⟨a, m, h1, by omega, h2⟩
    · rintro ⟨a, b, h1, h2, h3⟩
      by_cases hb : b = m
      · subst hb; exact .inr ⟨a, h1, h3⟩
      · exact .inl ⟨a, b, h1, by omega, h3⟩
def stP (x y : Bound) : Prop := x.a < y.a ∨ (x.a = y.a ∧ x.b < y.b)
def stC (x y : Bound) : Prop := x.b < y.b ∨ (x.b = y.b ∧ x.a < y.a)
theorem one_pair {R : Bound → Bound → Prop} (a b : Nat) : (one f g a b).Pairwise R := by
  unfold one; split <;> simp
theorem rowP_st (a : Nat) : ∀ m, (rowP f g a m).Pairwise stP
  | 0 => by simp [rowP]
  | m + 1 => by
    unfold rowP
    refine List.pairwise_append.2 ⟨rowP_st a m, one_pair _ _, fun x hx y hy => ?_⟩
    obtain ⟨b, h1, _, _, rfl⟩ := mem_rowP.1 hx
    obtain ⟨_, _, rfl⟩ := mem_one.1 hy
    exact .inr ⟨rfl, by simp only; omega⟩
theorem allP_st (m : Nat) : ∀ n, (allP f g m n).Pairwise stP
  | 0 => by simp [allP]
  | n + 1 => by
    unfold allP
    refine List.pairwise_append.2 ⟨allP_st m n, rowP_st n m, fun x hx y hy => ?_⟩
    obtain ⟨a, b, h1, _, _, _, rfl⟩ := mem_allP.1 hx
    obtain ⟨b', _, _, _, rfl⟩ := mem_rowP.1 hy
    exact .inl (by simp only; omega)
theorem colP_st (b : Nat) : ∀ n, (colP f g b n).Pairwise stC
  | 0 => by simp [colP]
  | n + 1 => by
    unfold colP
    refine List.pairwise_append.2 ⟨colP_st b n, one_pair _ _, fun x hx y hy => ?_⟩
    obtain ⟨a, h1, _, _, rfl⟩ := mem_colP.1 hx
    obtain ⟨_, _, rfl⟩ := mem_one.1 hy
    exact .inr ⟨rfl, by simp only; omega⟩
theorem allC_st (n : Nat) : ∀ m, (allC f g n m).Pairwise stC
  | 0 => by simp [allC]
  | m + 1 => by
    unfold allC
    refine List.pairwise_append.2 ⟨allC_st n m, colP_st m n, fun x hx y hy => ?_⟩
    obtain ⟨a, b, _, h1, _, _, rfl⟩ := mem_allC.1 hx
    obtain ⟨a', _, _, _, rfl⟩ := mem_colP.1 hy
    exact .inl (by simp only; omega)
theorem sort_allC (n : Nat) : DistB (allC f g n n) ∧ sortB (allC f g n n) = allP f g n n := by
  have hP := allP_st (f := f) (g := g) n n
  have hC := allC_st (f := f) (g := g) n n
  have dC : DistB (allC f g n n) := hC.imp fun {x y} h e => by unfold stC at h; omega
  refine ⟨dC, ?_⟩
  have n1 : (allP f g n n).Nodup := hP.imp fun {x y} h e => by subst e; unfold stP at h; omega
  have n2 : (allC f g n n).Nodup := hC.imp fun {x y} h e => by subst e; unfold stC at h; omega
  have hp : (allP f g n n).Perm (allC f g n n) := (List.perm_ext_iff_of_nodup n1 n2).2 fun x => by rw [mem_allP, mem_allC]
  exact (sortB_of hp (hP.imp fun {x y} h => by unfold stP at h; unfold ltB; simp; omega) dC).symm
theorem one_len (a b : Nat) : (one f g a b).length ≤ 1 := by unfold one; split <;> simp
theorem colP_len (b : Nat) : ∀ n, (colP f g b n).length ≤ n
  | 0 => by simp [colP]
  | n + 1 => by unfold colP; rw [List.length_append]; have := colP_len b n; have := one_len (f := f) (g := g) n b; omega
theorem rowP_len (a : Nat) : ∀ n, (rowP f g a n).length ≤ n
  | 0 => by simp [rowP]
  | n + 1 => by unfold rowP; rw [List.length_append]; have := rowP_len a n; have := one_len (f := f) (g := g) a n; omega
theorem allC_len (n : Nat) : ∀ m, (allC f g n m).length ≤ m * n
  | 0 => by simp [allC]
  | m + 1 => by unfold allC; rw [List.length_append, Nat.succ_mul]; have := allC_len n m; have := colP_len (f := f) (g := g) m n; omega
theorem allP_len (n : Nat) : ∀ m, (allP f g n m).length ≤ m * n
  | 0 => by simp [allP]
  | m + 1 => by unfold allP; rw [List.length_append, Nat.succ_mul]; have := allP_len n m; have := rowP_len (f := f) (g := g) m n; omega
end
abbrev kT (c : Core) (a b : Nat) : Bool := (mg (table c) a b).known
abbrev mT (c : Core) (a b : Nat) : Int := (mg (table c) a b).most
def plainR (c : Core) : List Bound := allP (kT c) (mT c) c.layers.toNat c.layers.toNat
theorem small {n a : Nat} (hn : n ≤ 8) (ha : a ≤ n) : a * n ≤ 64 := by
  have h1 : a * n ≤ 8 * n := Nat.mul_le_mul_right n (by omega)
  omega
theorem table_inv {c : Core} (hv : validate c = 0) (hc : clashes c = false) : TInv c.layers.toNat (pot c) 2560000 (table c) := tK_inv hv (pot_of hv hc) (Nat.le_refl _)
theorem plain_eq {c : Core} (hv : validate c = 0) (hc : clashes c = false) : core_plain (table c) = some (plainR c) := by
  have hvo := validate_ok hv
  have hI := table_inv hv hc
  have hl := hI.sq.len
  have hn8 : c.layers.toNat ≤ 8 := by omega
  have hS := sort_allC (f := kT c) (g := mT c) c.layers.toNat
  unfold core_plain
  have hfin : core_plain_k2 (allC (kT c) (mT c) c.layers.toNat c.layers.toNat) = some (plainR c) := by
    have hlC := allC_len (f := kT c) (g := mT c) c.layers.toNat c.layers.toNat
    have hlP := allP_len (f := kT c) (g := mT c) c.layers.toNat c.layers.toNat
    have hsm := small hn8 (Nat.le_refl _)
    have e : slices_SortFunc_order (allC (kT c) (mT c) c.layers.toNat c.layers.toNat) = some (plainR c) := by
      unfold slices_SortFunc_order
      rw [gd_pos ⟨by omega, hS.1⟩, hS.2]; rfl
    have hll : (allC (kT c) (mT c) c.layers.toNat c.layers.toNat).length = (plainR c).length := by
      unfold plainR
      rw [← hS.2]
      exact (List.mergeSort_perm _ _).length_eq.symm
    unfold core_plain_k2
    rw [bnd_eq e]
    have hpl : (plainR c).length ≤ 64 := by unfold plainR; omega
    refine for_loop0 (plainR c).length (fun i => (plainR c).take i) (fun n l t => core_plain_L1 (allC (kT c) (mT c) c.layers.toNat c.layers.toNat) (plainR c) n t l) _ (fun n i hi => ?_) (fun n => ?_) (by omega)
    · obtain ⟨x, hx⟩ := ex_at hi
      show core_plain_B1 _ (plainR c) (core_plain_L1 _ (plainR c) n) _ _ = _
      unfold core_plain_B1
      have ht : ((plainR c).take i).length ≤ i := by rw [List.length_take]; omega
      rw [if_pos (by omega), ix_nat hx, gd_pos (by simp only [List.length_singleton]; omega), gd_pos (by omega), List.take_add_one, hx]; rfl
    · show core_plain_B1 _ (plainR c) (core_plain_L1 _ (plainR c) n) _ _ = _
      unfold core_plain_B1 core_plain_k1
      rw [if_neg (by omega), List.take_length]
  rw [← hfin]
  refine for_loop0 c.layers.toNat (fun b => allC (kT c) (mT c) c.layers.toNat b) (fun n l t => core_plain_L3 (table c) n t l) _ (fun n b hb => ?_) (fun n => ?_) (by omega)
  · show core_plain_B3 (table c) (core_plain_L3 (table c) n) _ _ = _
    unfold core_plain_B3
    rw [if_pos (by omega)]
    have hlC := allC_len (f := kT c) (g := mT c) c.layers.toNat b
    have hsm := small hn8 (Nat.le_of_lt hb)
    have h := for_loop0 c.layers.toNat (fun a => allC (kT c) (mT c) c.layers.toNat b ++ colP (kT c) (mT c) b a) (fun k l t => core_plain_L2 (table c) (b : Int) (core_plain_L3 (table c) n) k t l) (core_plain_k3 (b : Int) (core_plain_L3 (table c) n) (allC (kT c) (mT c) c.layers.toNat (b + 1))) (fun k a ha => ?_) (fun k => ?_) (by omega)
    · have h' : core_plain_L2 (table c) (b : Int) (core_plain_L3 (table c) n) FU 0 (allC (kT c) (mT c) c.layers.toNat b ++ colP (kT c) (mT c) b 0) = _ := h
      rw [show allC (kT c) (mT c) c.layers.toNat b ++ colP (kT c) (mT c) b 0 = allC (kT c) (mT c) c.layers.toNat b from List.append_nil _] at h'
      rw [h']
      unfold core_plain_k3
      rw [gd_pos (by omega)]; rfl
    · obtain ⟨r, hr, hrb⟩ := hI.sq.atC (i := a) (j := b) (by omega) hb
      have hcl := colP_len (f := kT c) (g := mT c) b a
      have hll : (allC (kT c) (mT c) c.layers.toNat b ++ colP (kT c) (mT c) b a).length ≤ 80 := by rw [List.length_append]; omega
      show core_plain_B2 (table c) (b : Int) _ (core_plain_L2 (table c) (b : Int) _ k) _ _ = core_plain_L2 (table c) (b : Int) _ k _ (allC (kT c) (mT c) c.layers.toNat b ++ (colP (kT c) (mT c) b a ++ one (kT c) (mT c) a b))
      rw [← List.append_assoc]
      generalize allC (kT c) (mT c) c.layers.toNat b ++ colP (kT c) (mT c) b a = l at hll ⊢
      unfold core_plain_B2 core_plain_k5 core_plain_k4 one
      rw [if_pos (by omega)]
      by_cases hab : a = b
      · subst hab
        rw [if_pos rfl, if_neg (by simp), gd_pos (by omega)]
        simp
      · rw [if_neg (by omega), ix_nat hr, ix_nat hrb]
        cases hk : (mg (table c) a b).known
        · rw [if_neg (by simp), gd_pos (by omega)]
          simp [kT, hk]
        · rw [if_pos rfl, ix_nat hr, ix_nat hrb, gd_pos (by simp only [List.length_singleton]; omega), gd_pos (by omega)]
          simp [kT, hk, hab]
    · show core_plain_B2 (table c) (b : Int) _ (core_plain_L2 (table c) (b : Int) _ k) _ _ = _
      unfold core_plain_B2
      rw [if_neg (by omega)]; rfl
  · show core_plain_B3 (table c) (core_plain_L3 (table c) n) _ _ = _
    unfold core_plain_B3
    rw [if_neg (by omega)]
theorem rplain_eq {c : Core} (hv : validate c = 0) (hc : clashes c = false) : ref03_plain c = some (plainR c) := by
  have hvo := validate_ok hv
  have hn8 : c.layers.toNat ≤ 8 := by omega
  unfold ref03_plain
  rw [bnd_eq (walks_eq hv c.layers (by omega))]
  have hW := fun a b (ha : a < c.layers.toNat) (hb : b < c.layers.toNat) => table_wN hv hc ha hb
  have hp := fun a => wN_inv' hv a (k := c.layers.toNat) hn8
  unfold plainR
  refine for_loop0 c.layers.toNat (fun a => allP (kT c) (mT c) c.layers.toNat a) (fun n l t => ref03_plain_L2 c (wsT c c.layers.toNat c.layers.toNat, wkT c c.layers.toNat c.layers.toNat) n t l) _ (fun n a ha => ?_) (fun n => ?_) (by omega)
  · show ref03_plain_B2 c _ (ref03_plain_L2 c _ n) _ _ = _
    unfold ref03_plain_B2
    rw [if_pos (by omega)]
    have hlP := allP_len (f := kT c) (g := mT c) c.layers.toNat a
    have hsm := small hn8 (Nat.le_of_lt ha)
    have hs := wsT_at c c.layers.toNat c.layers.toNat (Nat.le_refl _) a ha
    have hk := wkT_at c c.layers.toNat c.layers.toNat (Nat.le_refl _) a ha
    generalize hR : ref03_plain_L2 c (wsT c c.layers.toNat c.layers.toNat, wkT c c.layers.toNat c.layers.toNat) n = R2
    have h := for_loop0 c.layers.toNat (fun b => allP (kT c) (mT c) c.layers.toNat a ++ rowP (kT c) (mT c) a b) (fun k l t => ref03_plain_L1 c (wsT c c.layers.toNat c.layers.toNat, wkT c c.layers.toNat c.layers.toNat) (a : Int) R2 k t l) (ref03_plain_k2 (a : Int) R2 (allP (kT c) (mT c) c.layers.toNat (a + 1))) (fun k b hb => ?_) (fun k => ?_) (by omega)
    · have h' : ref03_plain_L1 c (wsT c c.layers.toNat c.layers.toNat, wkT c c.layers.toNat c.layers.toNat) (a : Int) R2 FU 0 (allP (kT c) (mT c) c.layers.toNat a ++ rowP (kT c) (mT c) a 0) = _ := h
      rw [show allP (kT c) (mT c) c.layers.toNat a ++ rowP (kT c) (mT c) a 0 = allP (kT c) (mT c) c.layers.toNat a from List.append_nil _] at h'
      rw [h', ← hR]
      unfold ref03_plain_k2
      rw [gd_pos (by omega)]; rfl
    · obtain ⟨kb, hkb⟩ := ex_at (l := (wN c a c.layers.toNat).2) (j := b) (by rw [(hp a).l2]; omega)
      obtain ⟨sb, hsb⟩ := ex_at (l := (wN c a c.layers.toNat).1) (j := b) (by rw [(hp a).l1]; omega)
      have hw := hW a b ha hb
      have e1 : kn (wN c a c.layers.toNat) b = kb := by simp [kn, List.getD, hkb]
      have e2 : sm (wN c a c.layers.toNat) b = sb := by simp [sm, List.getD, hsb]
      rw [e1, e2] at hw
      have hcl := rowP_len (f := kT c) (g := mT c) a b
      have hll : (allP (kT c) (mT c) c.layers.toNat a ++ rowP (kT c) (mT c) a b).length ≤ 80 := by rw [List.length_append]; omega
      show ref03_plain_B1 c (wsT c c.layers.toNat c.layers.toNat, wkT c c.layers.toNat c.layers.toNat) (a : Int) R2 (ref03_plain_L1 c (wsT c c.layers.toNat c.layers.toNat, wkT c c.layers.toNat c.layers.toNat) (a : Int) R2 k) _ _ = ref03_plain_L1 c (wsT c c.layers.toNat c.layers.toNat, wkT c c.layers.toNat c.layers.toNat) (a : Int) R2 k _ (allP (kT c) (mT c) c.layers.toNat a ++ (rowP (kT c) (mT c) a b ++ one (kT c) (mT c) a b))
      rw [← List.append_assoc]
      generalize allP (kT c) (mT c) c.layers.toNat a ++ rowP (kT c) (mT c) a b = l at hll ⊢
      unfold ref03_plain_B1 ref03_plain_k4 ref03_plain_k3 one
      rw [if_pos (by omega)]
      by_cases hab : a = b
      · subst hab
        rw [if_pos rfl, if_neg (by simp), gd_pos (by omega)]
        simp
      · rw [if_neg (by omega), ix_nat hk, ix_nat hkb]
        cases hkk : kb
        · rw [hkk] at hw
          rw [if_neg (by simp), gd_pos (by omega)]
          simp [kT, hw.1]
        · rw [hkk] at hw
          rw [if_pos rfl, ix_nat hs, ix_nat hsb, gd_pos (by simp only [List.length_singleton]; omega), gd_pos (by omega)]
          simp [kT, mT, hw.1, hw.2 hw.1, hab]
    · show ref03_plain_B1 c _ (a : Int) R2 (ref03_plain_L1 c _ (a : Int) R2 k) _ _ = _
      unfold ref03_plain_B1
      rw [if_neg (by omega)]; rfl
  · show ref03_plain_B2 c _ (ref03_plain_L2 c _ n) _ _ = _
    unfold ref03_plain_B2
    rw [if_neg (by omega)]; rfl
def plainE (c : Core) : List Bound × Int := if validate c = 0 then (if clashes c = true then ([], 10) else (plainR c, 0)) else ([], validate c)
theorem Plain_eq (c : Core) (hl : c.bounds.length ≤ 100) : core_Plain c = some (plainE c) ∧ ref03_Plain c = some (plainE c) := by
  unfold core_Plain ref03_Plain plainE
  rw [bnd_eq (Validate_eq c hl), bnd_eq (rValidate_eq c hl)]
  by_cases hv : validate c = 0
  · rw [if_pos hv, if_pos hv, if_pos hv, bnd_eq (tables_eq hv), bnd_eq (rclashes_eq hv), ← clash_iff hv]
    unfold tables
    cases hc : clashes c
    · simp only [Bool.false_eq_true, if_false, if_true]
      rw [bnd_eq (plain_eq hv hc), bnd_eq (rplain_eq hv hc)]
      exact ⟨rfl, rfl⟩
    · simp
  · rw [if_neg hv, if_neg hv, if_neg hv]
    exact ⟨rfl, rfl⟩
theorem plainR_len {c : Core} (hv : validate c = 0) : (plainR c).length ≤ 64 := by
  have hvo := validate_ok hv
  have h1 := allP_len (f := kT c) (g := mT c) c.layers.toNat c.layers.toNat
  have h2 := small (n := c.layers.toNat) (by omega) (Nat.le_refl _)
  unfold plainR; omega
end Go.D3

set_option linter.unusedVariables false
set_option linter.unusedSimpArgs false
namespace Go.D3
open Go.Tb Go.Core
def fx (c : Core) (a b : Nat) : Bool := kT c a b && kT c b a && decide (mT c a b = -mT c b a)
theorem fx_iff {c : Core} {a b : Nat} : fx c a b = true ↔ kT c a b = true ∧ kT c b a = true ∧ mT c a b = -mT c b a := by
  unfold fx; simp [and_assoc]
theorem fx_symm {c : Core} {a b : Nat} (h : fx c a b = true) : fx c b a = true := by
  rw [fx_iff] at *
  obtain ⟨h1, h2, h3⟩ := h
  exact ⟨h2, h1, by omega⟩
section
variable {c : Core} (hv : validate c = 0) (hc : clashes c = false)
include hv hc
theorem fx_refl {a : Nat} (ha : a < c.layers.toNat) : fx c a a = true := by
  have := (table_inv hv hc).diag a ha
  rw [fx_iff]
  unfold kT mT
  rw [this]; simp
theorem fx_trans {a b d : Nat} (ha : a < c.layers.toNat) (hb : b < c.layers.toNat) (hd : d < c.layers.toNat) (h1 : fx c a b = true) (h2 : fx c b d = true) : fx c a d = true := by
  have hI := table_inv hv hc
  obtain ⟨k1, k2, e1⟩ := fx_iff.1 h1
  obtain ⟨k3, k4, e2⟩ := fx_iff.1 h2
  have go : ∀ {x y z : Nat}, x < c.layers.toNat → y < c.layers.toNat → z < c.layers.toNat → kT c x y = true → kT c y z = true → kT c x z = true ∧ mT c x z ≤ mT c x y + mT c y z := by
    intro x y z hx hy hz q1 q2
    obtain ⟨e, p1, w1⟩ := (table_spec hv hc hx hy).1 q1
    obtain ⟨e', p2, w2⟩ := (table_spec hv hc hy hz).1 q2
    have := (table_spec hv hc hx hz).2 (e ++ e') (p1.append p2)
    rw [wt_append] at this
    exact ⟨this.1, by unfold mT; omega⟩
  obtain ⟨g1, g2⟩ := go ha hb hd k1 k3
  obtain ⟨g3, g4⟩ := go hd hb ha k4 k2
  have p1 := hI.pot a d ha hd g1
  have p2 := hI.pot d a hd ha g3
  rw [fx_iff]
  refine ⟨g1, g3, ?_⟩
  unfold mT at *
  omega
theorem fixed_eq {a b : Nat} (ha : a < c.layers.toNat) (hb : b < c.layers.toNat) : core_fixed (table c) (a : Int) (b : Int) = some (fx c a b) := by
  have hI := table_inv hv hc
  obtain ⟨r, hr, hrb⟩ := hI.sq.atC ha hb
  obtain ⟨q, hq, hqa⟩ := hI.sq.atC hb ha
  have b2 := hI.bnd b a hb ha
  unfold core_fixed fx
  rw [ix_nat hr, ix_nat hrb]
  cases h1 : (mg (table c) a b).known
  · simp [kT, h1]
  · rw [if_pos rfl, ix_nat hq, ix_nat hqa]
    cases h2 : (mg (table c) b a).known
    · simp [kT, h2]
    · rw [if_pos rfl, ix_nat hr, ix_nat hrb, ix_nat hq, ix_nat hqa, gd_pos (by omega)]
      simp [kT, mT, h1, h2]
theorem rFixed_eq {a b : Nat} (ha : a < c.layers.toNat) (hb : b < c.layers.toNat) : ∃ v, ref03_Fixed c (a : Int) (b : Int) = some (v, fx c a b, 0) := by
  have hvo := validate_ok hv
  have hl : ref03_layered c (a : Int) (b : Int) = some 0 := by
    unfold ref03_layered ref03_layered_k1
    rw [bnd_eq (rValidate_eq c (by omega)), if_pos hv, gd_pos (by omega), bnd_eq (rwithin_eq _ _ _), Go.Core.within_iff.2 (by omega), if_pos rfl, gd_pos (by omega), bnd_eq (rwithin_eq _ _ _), Go.Core.within_iff.2 (by omega), if_neg (by simp), bnd_eq (rclashes_eq hv), ← clash_iff hv, hc, if_neg (by simp)]
  unfold ref03_Fixed
  rw [bnd_eq hl, if_pos rfl, bnd_eq (walks_eq hv c.layers (by omega))]
  have n8 : c.layers.toNat ≤ 8 := by omega
  have cell : ∀ {x y : Nat}, x < c.layers.toNat → y < c.layers.toNat → ∃ s, (wN c x c.layers.toNat).2[y]? = some (kT c x y) ∧ (wN c x c.layers.toNat).1[y]? = some s ∧ (kT c x y = true → s = mT c x y) ∧ -80000 ≤ s ∧ s ≤ 80000 := by
    intro x y hx hy
    have hp := wN_inv' hv x (k := c.layers.toNat) n8
    have hw := table_wN hv hc hx hy
    obtain ⟨k, hk⟩ := ex_at (l := (wN c x c.layers.toNat).2) (j := y) (by rw [hp.l2]; omega)
    obtain ⟨s, hs⟩ := ex_at (l := (wN c x c.layers.toNat).1) (j := y) (by rw [hp.l1]; omega)
    have e1 : kn (wN c x c.layers.toNat) y = k := by simp [kn, List.getD, hk]
    have e2 : sm (wN c x c.layers.toNat) y = s := by simp [sm, List.getD, hs]
    rw [e1, e2] at hw
    exact ⟨s, by rw [hk]; congr 1; exact hw.1.symm, hs, fun h => (hw.2 h).symm, hp.at_ hs⟩
  obtain ⟨s1, k1, d1, e1, _⟩ := cell ha hb
  obtain ⟨s2, k2, d2, e2, bd⟩ := cell hb ha
  have w1 := wsT_at c c.layers.toNat c.layers.toNat (Nat.le_refl _) a ha
  have w2 := wkT_at c c.layers.toNat c.layers.toNat (Nat.le_refl _) a ha
  have w3 := wsT_at c c.layers.toNat c.layers.toNat (Nat.le_refl _) b hb
  have w4 := wkT_at c c.layers.toNat c.layers.toNat (Nat.le_refl _) b hb
  unfold ref03_Fixed_k1
  rw [ix_nat w2, ix_nat k1]
  cases h1 : kT c a b
  · exact ⟨0, by simp [fx, h1]⟩
  · rw [if_pos rfl, ix_nat w4, ix_nat k2]
    cases h2 : kT c b a
    · exact ⟨0, by simp [fx, h2]⟩
    · have e1' := e1 h1
      have e2' := e2 h2
      rw [if_pos rfl, ix_nat w1, ix_nat d1, ix_nat w3, ix_nat d2, gd_pos (by omega)]
      by_cases h3 : s1 = -s2
      · rw [decide_eq_true h3, if_neg (by simp), ix_nat w1, ix_nat d1]
        exact ⟨s1, by rw [show fx c a b = true from fx_iff.2 ⟨h1, h2, by omega⟩]⟩
      · rw [decide_eq_false h3]
        refine ⟨0, ?_⟩
        rw [show fx c a b = false by
          cases h : fx c a b with
          | false => rfl
          | true => exact absurd (fx_iff.1 h).2.2 (by rw [← e1', ← e2']; exact h3)]
        rfl
end
def grp (c : Core) (i : Nat) : Nat → List Int
  | 0 => []
  | j + 1 => grp c i j ++ (if fx c i j = true then [(j : Int)] else [])
def tkn (c : Core) (l : List Bool) (i : Nat) : Nat → List Bool
  | 0 => l
  | j + 1 => if fx c i j = true then (tkn c l i j).set j true else tkn c l i j
def gst (c : Core) : Nat → List (List Int) × List Bool
  | 0 => ([], List.replicate c.layers.toNat false)
  | i + 1 => if (gst c i).2.getD i false = true then gst c i else ((gst c i).1 ++ [grp c i c.layers.toNat], tkn c (gst c i).2 i c.layers.toNat)
def rst (c : Core) : Nat → List (List Int)
  | 0 => []
  | i + 1 => if (grp c i c.layers.toNat).head? = some (i : Int) then rst c i ++ [grp c i c.layers.toNat] else rst c i
theorem grp_len (c : Core) (i : Nat) : ∀ j, (grp c i j).length ≤ j
  | 0 => by simp [grp]
  | j + 1 => by
    unfold grp
    rw [List.length_append]
    have := grp_len c i j
    split <;> simp <;> omega
theorem tkn_len (c : Core) (l : List Bool) (i : Nat) : ∀ j, (tkn c l i j).length = l.length
  | 0 => rfl
  | j + 1 => by unfold tkn; split <;> simp [tkn_len c l i j]
theorem tkn_at (c : Core) (l : List Bool) (i : Nat) {b : Nat} (hb : b < l.length) : ∀ j, (tkn c l i j).getD b false = (l.getD b false || (decide (b < j) && fx c i b))
  | 0 => by simp [tkn]
  | j + 1 => by
    have ih := tkn_at c l i hb j
    have hl := tkn_len c l i j
    unfold tkn
    split
    · rename_i h
      by_cases hbj : b = j
      · subst hbj
        rw [List.getD_eq_getElem?_getD, List.getElem?_set_self (by omega)]
        simp [h]
      · rw [List.getD_eq_getElem?_getD, List.getElem?_set_ne (Ne.symm hbj), ← List.getD_eq_getElem?_getD, ih]
        have : (b < j) = (b < j + 1) := by apply propext; omega
        simp only [this]
    · rename_i h
      rw [ih]
      by_cases hbj : b = j
      · subst hbj
        have h' : fx c i b = false := by simpa using h
        simp [h']
      · have : (b < j) = (b < j + 1) := by apply propext; omega
        simp only [this]
theorem gst_len (c : Core) : ∀ i, (gst c i).2.length = c.layers.toNat
  | 0 => by simp [gst]
  | i + 1 => by unfold gst; split <;> simp [gst_len c i, tkn_len]
theorem gst1_len (c : Core) : ∀ i, (gst c i).1.length ≤ i
  | 0 => by simp [gst]
  | i + 1 => by unfold gst; have := gst1_len c i; split <;> simp <;> omega
theorem rst_len {c : Core} (hv : validate c = 0) : ∀ i, (rst c i).length ≤ i ∧ ∀ g ∈ rst c i, g.length ≤ 8
  | 0 => by simp [rst]
  | i + 1 => by
    have hvo := validate_ok hv
    obtain ⟨h1, h2⟩ := rst_len hv i
    unfold rst
    split
    · refine ⟨by simp; omega, fun g hg => ?_⟩
      rcases List.mem_append.1 hg with hg | hg
      · exact h2 g hg
      · have := grp_len c i c.layers.toNat
        simp at hg
        subst hg; omega
    · exact ⟨by omega, h2⟩
theorem grp_head (c : Core) (i : Nat) {b : Nat} (hb : fx c i b = true) (hlt : ∀ a, a < b → fx c i a = false) : ∀ j, (grp c i j).head? = if b < j then some (b : Int) else none
  | 0 => by simp [grp]
  | j + 1 => by
    have ih := grp_head c i hb hlt j
    unfold grp
    rw [List.head?_append, ih]
    by_cases h1 : b < j
    · have h3 : b < j + 1 := by omega
      simp only [h1, h3, if_true, Option.some_or]
    · by_cases h2 : b = j
      · subst h2
        have h3 : b < b + 1 := by omega
        simp only [h1, h3, hb, if_true, if_false]; rfl
      · have h3 : ¬ b < j + 1 := by omega
        simp only [h1, h3, hlt j (by omega), if_false, Bool.false_eq_true]; rfl
section
variable {c : Core} (hv : validate c = 0) (hc : clashes c = false)
include hv hc
theorem gst_at : ∀ i, i ≤ c.layers.toNat → ∀ b, b < c.layers.toNat → ((gst c i).2.getD b false = true ↔ ∃ a, a < i ∧ fx c a b = true)
  | 0, _, b, hb => by
    simp [gst, List.getD_eq_getElem?_getD, List.getElem?_replicate, hb]
  | i + 1, hi, b, hb => by
    have ih := gst_at i (by omega)
    unfold gst
    split
    · rename_i h
      obtain ⟨a0, ha0, hf0⟩ := (ih i (by omega)).1 h
      rw [ih b hb]
      constructor
      · rintro ⟨a, h1, h2⟩; exact ⟨a, by omega, h2⟩
      · rintro ⟨a, h1, h2⟩
        by_cases ha : a = i
        · subst ha
          exact ⟨a0, ha0, fx_trans hv hc (by omega) (by omega) hb hf0 h2⟩
        · exact ⟨a, by omega, h2⟩
    · simp only
      rw [tkn_at c _ i (by rw [gst_len]; exact hb)]
      simp only [Bool.or_eq_true, Bool.and_eq_true, decide_eq_true_eq]
      rw [ih b hb]
      constructor
      · rintro (⟨a, h1, h2⟩ | ⟨_, h2⟩)
        · exact ⟨a, by omega, h2⟩
        · exact ⟨i, by omega, h2⟩
      · rintro ⟨a, h1, h2⟩
        by_cases ha : a = i
        · subst ha; exact .inr ⟨hb, h2⟩
        · exact .inl ⟨a, by omega, h2⟩
theorem gst_rst : ∀ i, i ≤ c.layers.toNat → (gst c i).1 = rst c i
  | 0, _ => rfl
  | i + 1, hi => by
    have ih := gst_rst i (by omega)
    have hat := gst_at hv hc i (by omega) i (by omega)
    unfold gst rst
    by_cases hex : ∃ a, a < i ∧ fx c a i = true
    · rw [if_pos (hat.2 hex)]
      obtain ⟨a, ha, hfa⟩ := hex
      obtain ⟨m, hm1, hm2, hm3⟩ := least (p := fun x => fx c i x = true) a (fx_symm hfa)
      have := grp_head c i hm1 (fun x hx => by have := hm3 x hx; simpa using this) c.layers.toNat
      rw [if_pos (by omega)] at this
      rw [this, if_neg (fun e => by have := Option.some.inj e; omega)]
      exact ih
    · rw [if_neg (fun h => hex (hat.1 h))]
      have := grp_head c i (fx_refl hv hc (a := i) (by omega)) (fun x hx => by
        cases h : fx c i x with
        | false => rfl
        | true => exact absurd ⟨x, hx, fx_symm h⟩ hex) c.layers.toNat
      rw [if_pos (by omega)] at this
      rw [this, if_pos rfl]
      simp only
      rw [ih]
theorem groups_eq : core_Groups_L2 c (table c, 0) FU 0 [] (List.replicate c.layers.toNat false) = some ((gst c c.layers.toNat).1, 0) := by
  have hvo := validate_ok hv
  refine for_loop0 c.layers.toNat (fun i => gst c i) (fun n s t => core_Groups_L2 c (table c, 0) n t s.1 s.2) _ (fun n i hi => ?_) (fun n => ?_) (by omega)
  · have hl := gst_len c i
    have hl1 := gst1_len c i
    obtain ⟨x, hx⟩ := ex_at (l := (gst c i).2) (j := i) (by omega)
    have hxx : (gst c i).2.getD i false = x := by simp [List.getD, hx]
    show core_Groups_B2 c (table c, 0) (core_Groups_L2 c (table c, 0) n) _ _ _ = core_Groups_L2 c (table c, 0) n _ (if (gst c i).2.getD i false = true then gst c i else ((gst c i).1 ++ [grp c i c.layers.toNat], tkn c (gst c i).2 i c.layers.toNat)).1 (if (gst c i).2.getD i false = true then gst c i else ((gst c i).1 ++ [grp c i c.layers.toNat], tkn c (gst c i).2 i c.layers.toNat)).2
    rw [hxx]
    generalize gst c i = s at *
    obtain ⟨m, l⟩ := s
    simp only at hl hl1 hx ⊢
    generalize core_Groups_L2 c (table c, 0) n = rec1
    unfold core_Groups_B2
    rw [if_pos (by omega), ix_nat hx]
    by_cases hxt : x = true
    · rw [if_pos hxt, if_pos hxt]
      unfold core_Groups_k2
      rw [gd_pos (by omega)]; rfl
    · rw [if_neg hxt, if_neg hxt]
      have h := for_loop0 c.layers.toNat (fun j => (tkn c l i j, grp c i j)) (fun k s t => core_Groups_L1 c (table c, 0) (i : Int) m rec1 k t s.1 s.2) (core_Groups_k3 (i : Int) m rec1 (tkn c l i c.layers.toNat) (grp c i c.layers.toNat)) (fun k j hj => ?_) (fun k => ?_) (by omega)
      · refine Eq.trans h ?_
        unfold core_Groups_k3 core_Groups_k2
        rw [gd_pos (by omega), gd_pos (by omega)]; rfl
      · have htl := tkn_len c l i j
        have hgl := grp_len c i j
        obtain ⟨y, hy⟩ := ex_at (l := tkn c l i j) (j := j) (by omega)
        show core_Groups_B1 c (table c, 0) (i : Int) m rec1 (core_Groups_L1 c (table c, 0) (i : Int) m rec1 k) _ (tkn c l i j) (grp c i j) = core_Groups_L1 c (table c, 0) (i : Int) m rec1 k _ (if fx c i j = true then (tkn c l i j).set j true else tkn c l i j) (grp c i j ++ (if fx c i j = true then [(j : Int)] else []))
        unfold core_Groups_B1 core_Groups_k4
        rw [if_pos (by omega), bnd_eq (fixed_eq hv hc hi hj)]
        by_cases hf : fx c i j = true
        · rw [if_pos hf, if_pos hf, if_pos hf, gd_pos (by simp only [List.length_singleton]; omega), ix_nat hy, gd_pos (by omega)]; rfl
        · rw [if_neg hf, if_neg hf, if_neg hf, gd_pos (by omega), List.append_nil]; rfl
      · show core_Groups_B1 c (table c, 0) (i : Int) m rec1 (core_Groups_L1 c (table c, 0) (i : Int) m rec1 k) _ _ _ = _
        unfold core_Groups_B1
        rw [if_neg (by omega)]
  · show core_Groups_B2 c (table c, 0) (core_Groups_L2 c (table c, 0) n) _ _ _ = _
    unfold core_Groups_B2
    rw [if_neg (by omega)]; rfl
theorem rgroups_eq : ref03_Groups_L2 c FU 0 [] = some (rst c c.layers.toNat, 0) := by
  have hvo := validate_ok hv
  refine for_loop0 c.layers.toNat (fun i => rst c i) (fun n s t => ref03_Groups_L2 c n t s) _ (fun n i hi => ?_) (fun n => ?_) (by omega)
  · have hl1 := (rst_len hv i).1
    show ref03_Groups_B2 c (ref03_Groups_L2 c n) _ _ = ref03_Groups_L2 c n _ (if (grp c i c.layers.toNat).head? = some (i : Int) then rst c i ++ [grp c i c.layers.toNat] else rst c i)
    generalize rst c i = m at *
    generalize ref03_Groups_L2 c n = rec1
    unfold ref03_Groups_B2
    rw [if_pos (by omega)]
    have h := for_loop0 c.layers.toNat (fun j => grp c i j) (fun k s t => ref03_Groups_L1 c (i : Int) m rec1 k t s) (ref03_Groups_k3 (i : Int) m rec1 (grp c i c.layers.toNat)) (fun k j hj => ?_) (fun k => ?_) (by omega)
    · refine Eq.trans h ?_
      obtain ⟨b, hb1, hb2, hb3⟩ := least (p := fun x => fx c i x = true) i (fx_refl hv hc hi)
      have hh := grp_head c i hb1 (fun x hx => by have := hb3 x hx; simpa using this) c.layers.toNat
      rw [if_pos (by omega)] at hh
      have h0 : (grp c i c.layers.toNat)[0]? = some (b : Int) := by rw [← List.head?_eq_getElem?]; exact hh
      unfold ref03_Groups_k3 ref03_Groups_k2
      rw [ixz h0, hh]
      by_cases hbi : (b : Int) = (i : Int)
      · rw [if_pos hbi, if_pos (by rw [hbi]), gd_pos (by omega), gd_pos (by omega)]; rfl
      · rw [if_neg hbi, if_neg (fun e => hbi (Option.some.inj e)), gd_pos (by omega)]; rfl
    · have hgl := grp_len c i j
      obtain ⟨v, hF⟩ := rFixed_eq hv hc hi hj
      show ref03_Groups_B1 c (i : Int) m rec1 (ref03_Groups_L1 c (i : Int) m rec1 k) _ (grp c i j) = ref03_Groups_L1 c (i : Int) m rec1 k _ (grp c i j ++ (if fx c i j = true then [(j : Int)] else []))
      unfold ref03_Groups_B1 ref03_Groups_k4
      rw [if_pos (by omega), bnd_eq hF]
      by_cases hf : fx c i j = true
      · rw [if_pos hf, if_pos hf, gd_pos (by simp only [List.length_singleton]; omega), gd_pos (by omega)]; rfl
      · rw [if_neg hf, if_neg hf, gd_pos (by omega), List.append_nil]; rfl
    · show ref03_Groups_B1 c (i : Int) m rec1 (ref03_Groups_L1 c (i : Int) m rec1 k) _ _ = _
      unfold ref03_Groups_B1
      rw [if_neg (by omega)]
  · show ref03_Groups_B2 c (ref03_Groups_L2 c n) _ _ = _
    unfold ref03_Groups_B2
    rw [if_neg (by omega)]; rfl
end
def groupsE (c : Core) : List (List Int) × Int := if validate c = 0 then (if clashes c = true then ([], 10) else (rst c c.layers.toNat, 0)) else ([], validate c)
theorem Groups_eq (c : Core) (hl : c.bounds.length ≤ 100) : core_Groups c = some (groupsE c) ∧ ref03_Groups c = some (groupsE c) := by
  unfold core_Groups ref03_Groups groupsE
  rw [bnd_eq (Validate_eq c hl), bnd_eq (rValidate_eq c hl)]
  by_cases hv : validate c = 0
  · have hvo := validate_ok hv
    rw [if_pos hv, if_pos hv, if_pos hv, bnd_eq (tables_eq hv), bnd_eq (rclashes_eq hv), ← clash_iff hv]
    unfold tables
    cases hc : clashes c
    · simp only [Bool.false_eq_true, if_false, if_true]
      rw [gd_pos (by omega), groups_eq hv hc, gst_rst hv hc _ (Nat.le_refl _), rgroups_eq hv hc]
      exact ⟨rfl, rfl⟩
    · simp
  · rw [if_neg hv, if_neg hv, if_neg hv]
    exact ⟨rfl, rfl⟩
theorem SameI_self {l : List Int} (hl : l.length ≤ 1000000) : ref01_SameInts l l = some true := by
  unfold ref01_SameInts
  rw [if_pos rfl]
  refine for_loop0 l.length (fun _ => ()) (fun n _ i => ref01_SameInts_L1 l l n i) _ (fun n i hi => ?_) (fun n => ?_) (by omega)
  · obtain ⟨x, hx⟩ := ex_at hi
    show ref01_SameInts_B1 l l (ref01_SameInts_L1 l l n) _ = _
    unfold ref01_SameInts_B1
    rw [if_pos (by omega), ix_nat hx, ix_nat hx, if_pos rfl, gd_pos (by omega)]; rfl
  · show ref01_SameInts_B1 l l (ref01_SameInts_L1 l l n) _ = _
    unfold ref01_SameInts_B1
    rw [if_neg (by omega)]; rfl
theorem SameL_self {l : List (List Int)} (hl : l.length ≤ 1000000) (h : ∀ x ∈ l, x.length ≤ 1000000) : ref01_SameLists l l = some true := by
  unfold ref01_SameLists
  rw [if_pos rfl]
  refine for_loop0 l.length (fun _ => ()) (fun n _ i => ref01_SameLists_L1 l l n i) _ (fun n i hi => ?_) (fun n => ?_) (by omega)
  · obtain ⟨x, hx⟩ := ex_at hi
    show ref01_SameLists_B1 l l (ref01_SameLists_L1 l l n) _ = _
    unfold ref01_SameLists_B1
    rw [if_pos (by omega), ix_nat hx, ix_nat hx, bnd_eq (SameI_self (h x (List.mem_of_getElem? hx))), if_pos rfl, gd_pos (by omega)]; rfl
  · show ref01_SameLists_B1 l l (ref01_SameLists_L1 l l n) _ = _
    unfold ref01_SameLists_B1
    rw [if_neg (by omega)]; rfl
theorem law_CorePlains (c : Core) : law03_CorePlains c = some true := by
  unfold law03_CorePlains
  rw [bnd_eq (Long_eq c)]
  by_cases h1 : (100 : Int) < (c.bounds.length : Int)
  · rw [if_pos (by simpa using h1), bnd_eq known_eq]
  rw [if_neg (by simpa using h1)]
  have hc : c.bounds.length ≤ 100 := by omega
  obtain ⟨g1, g2⟩ := Groups_eq c hc
  obtain ⟨p1, p2⟩ := Plain_eq c hc
  have hg : (groupsE c).1.length ≤ 1000000 ∧ ∀ x ∈ (groupsE c).1, x.length ≤ 1000000 := by
    unfold groupsE
    by_cases hv : validate c = 0
    · rw [if_pos hv]
      have hvo := validate_ok hv
      cases hcl : clashes c
      · have := rst_len hv c.layers.toNat
        simp only [Bool.false_eq_true, if_false]
        exact ⟨by omega, fun x hx => by have := this.2 x hx; omega⟩
      · simp
    · rw [if_neg hv]; simp
  have hp : (plainE c).1.length ≤ 1000000 := by
    unfold plainE
    by_cases hv : validate c = 0
    · rw [if_pos hv]
      have := plainR_len hv
      cases hcl : clashes c <;> simp <;> omega
    · rw [if_neg hv]; simp
  rw [bnd_eq g1, bnd_eq g2, bnd_eq p1, bnd_eq p2, bnd_eq (SameL_self hg.1 hg.2), if_pos rfl, if_pos rfl, bnd_eq (SameBounds_self _ hp), if_pos rfl, if_pos rfl, bnd_eq known_eq]
end Go.D3
