/- Lemmas and walks that the proof of this claim uses: D3m4, D3m5D, D3m5, D3m6D. -/
import Derived.Test.YtmjadkjcbaohbaaCoreEither4
import Derived.Test.YtmjadkjcbaohbaaProg
import Derived.KernelRfl
set_option linter.unusedVariables false
set_option linter.unusedSimpArgs false
namespace Go.D3
open Go.Tb Go.Proofs Go.RowKit Go.Core

theorem Tc37 : callable Try.prog 37 = true := by kernel_rfl
theorem Tc65 : callable Try.prog 65 = true := by kernel_rfl
theorem Tc67 : callable Try.prog 67 = true := by kernel_rfl
theorem Tc69 : callable Try.prog 69 = true := by kernel_rfl
theorem Tc71 : callable Try.prog 71 = true := by kernel_rfl
theorem Tc85 : callable Try.prog 85 = true := by kernel_rfl
theorem Tc86 : callable Try.prog 86 = true := by kernel_rfl
theorem Tc94 : callable Try.prog 94 = true := by kernel_rfl

set_option maxRecDepth 20000 in
set_option maxHeartbeats 1000000 in
theorem ref03_clashes_ok {a0 : Core} {A_a0_bounds : Option Addr} {c_a0_bounds : Nat} {w : World} {res : Bool} (h_a0_bounds : Sl w A_a0_bounds c_a0_bounds 3 (a0.bounds.map encBound)) (F : ref03_clashes a0 = some res) : Calls Try.prog 69 #[.agg #[.int .i64 a0.layers, .slice A_a0_bounds a0.bounds.length c_a0_bounds]] w (Rt w (.bool res)) := by
  refine calls_of_cw (args := [.agg #[.int .i64 a0.layers, .slice A_a0_bounds a0.bounds.length c_a0_bounds]]) Try.func69 rfl rfl rfl rfl ?_
  have H := Hp.start w
  have R0 := H.ext
  unfold ref03_clashes at F
  refine CW.seq fun K1 hK1 => ?_
  refine CW.region ?_
  refine LW.go rfl rfl (OW.box rfl fun b1 w1 N1 => ?_)
  replace H := H.new N1 N1.blk
  replace R0 := H.ext
  refine LW.pure rfl rfl (RV.assign rfl) ?_
  refine LW.nil (hK1 _ _ ?_)
  refine CW.seq fun K2 hK2 => ?_
  obtain ⟨r1, hr1, F⟩ := bnd_some F
  refine CW.region ?_
  refine LW.pure rfl rfl (RV.loadA [.int .i64 a0.layers, .slice A_a0_bounds a0.bounds.length c_a0_bounds] Tk24 rfl (H.blk 0 rfl).cells rfl rfl) ?_
  refine LW.pure rfl rfl (RV.fieldAddr Tf24_0 rfl) ?_
  refine LW.pure rfl rfl (RV.load1 Tk3 rfl ((H.blk 0 rfl).cells.off 0) rfl) ?_
  refine LW.go rfl rfl (OW.call Tc65 rfl (ref03_walks_ok (a0 := a0) (a1 := a0.layers) (h_a0_bounds.ext R0) hr1) ?_)
  rintro _ w2 ⟨A3_0, c3_0, hs3_0, A3_1, c3_1, hs3_1, rfl, E1⟩
  refine ⟨_, rfl, ?_⟩
  replace H : Hp w w2 [.tab A3_0 c3_0 43 hs3_0 3 1 (encM encN r1.1), .tab A3_1 c3_1 81 hs3_1 4 1 (encM encBl r1.2), .blk b1 24 [.int .i64 a0.layers, .slice A_a0_bounds a0.bounds.length c_a0_bounds]] := H.append E1
  replace R0 := H.ext
  refine LW.pure rfl rfl (RV.move rfl) ?_
  refine LW.pure rfl rfl (RV.extract rfl rfl) ?_
  refine LW.pure rfl rfl (RV.extract rfl rfl) ?_
  refine LW.pure rfl rfl (RV.assign rfl) ?_
  refine LW.pure rfl rfl (RV.assign rfl) ?_
  refine LW.nil (hK2 _ _ ?_)
  refine CW.seqJ (fun ρ wl1 => (ref03_clashes_k1 = some res ∧ ρ = [(2, .bool false)] ∧ Hp w wl1 [])) ?_ ?_
  ·
    rintro _ wl1 ⟨F, rfl, H⟩
    have R0 := H.ext
    unfold ref03_clashes_k1 at F
    refine CW.seq fun K3 hK3 => ?_
    refine CW.region ?_
    refine LW.pure rfl rfl (RV.assign rfl) ?_
    refine LW.nil (hK3 _ _ ?_)
    refine CW.ret ?_
    obtain rfl := Option.some.inj F
    refine ⟨_, (ResOK.one rfl), ?_⟩
    refine ⟨(by first | rfl | simp), R0⟩
  ·
    intro K4 hK4 jK56
    refine CW.seq fun K5 hK5 => ?_
    refine CW.region ?_
    refine LW.pure rfl rfl (RV.assign rfl) ?_
    refine LW.nil (hK5 _ _ ?_)
    refine CW.block ?_
    replace H := H.pick (L' := [.tab A3_0 c3_0 43 hs3_0 3 1 (encM encN r1.1), .blk b1 24 [.int .i64 a0.layers, .slice A_a0_bounds a0.bounds.length c_a0_bounds]]) [0, 2] (by decide) rfl
    replace R0 := H.ext
    refine CW.loop (fun meas ρ wl2 => ∃ (t5_1 : Int), ref03_clashes_L1 a0 r1 meas t5_1 = some res ∧ ρ = [(1, .pointer (some (⟨b1, 0, none⟩))), (2, .bool false), (3, .slice A3_0 r1.1.length c3_0), (5, .int .i64 t5_1)] ∧ Hp w wl2 [.tab A3_0 c3_0 43 hs3_0 3 1 (encM encN r1.1), .blk b1 24 [.int .i64 a0.layers, .slice A_a0_bounds a0.bounds.length c_a0_bounds]]) FU ⟨_, ?_, ((0 : Int)), F, rfl, H⟩ ?_
    · exact ⟨rfl, rfl, (look_slice rfl (by first | rfl | (simp; done) | (simp; omega))), rfl, trivial⟩
    rintro mk1 _ wl2 ⟨t5_1, F, rfl, H⟩
    have R0 := H.ext
    replace F := ref03_clashes_L1_s F
    obtain ⟨mk1, rfl, F⟩ := F
    generalize hrec1 : ref03_clashes_L1 a0 r1 mk1 = rec1 at F
    unfold ref03_clashes_B1 at F
    refine CW.seq fun K6 hK6 => ?_
    refine CW.seq fun K7 hK7 => ?_
    refine CW.region ?_
    refine LW.pure rfl rfl (RV.move rfl) ?_
    refine LW.pure rfl rfl (RV.fieldAddr Tf24_0 rfl) ?_
    refine LW.pure rfl rfl (RV.load1 Tk3 rfl ((H.blk 1 rfl).cells.off 0) rfl) ?_
    refine LW.pure rfl rfl (RV.lss rfl rfl) ?_
    refine LW.nil (hK7 _ _ ?_)
    by_cases hp1 : t5_1 < a0.layers
    ·
      replace F := ite_y hp1 F
      have hq1 := dec_t hp1
      refine CW.condT rfl hq1 ?_
      refine CW.skip (hK6 _ _ ?_)
      refine CW.seq fun K8 hK8 => ?_
      refine CW.block ?_
      refine CW.seq fun K9 hK9 => ?_
      obtain ⟨x1, hbx1, hx1, F⟩ := ix_some F
      obtain ⟨x2, hbx2, hx2, F⟩ := ix_some F
      refine CW.region ?_
      refine LW.pure rfl rfl (RV.move rfl) ?_
      refine LW.pure rfl rfl (RV.move rfl) ?_
      obtain ⟨B1, e1, hh1⟩ := (H.tab 0 rfl).hd hx1
      refine LW.pure rfl rfl (RV.indexAddr Ts58 rfl rfl hbx1 ((H.tab 0 rfl).addr_ hx1)) ?_
      refine LW.pure rfl rfl (RV.load1 Tk43 rfl ((H.tab 0 rfl).cell hx1 hh1) rfl) ?_
      refine LW.pure rfl rfl (RV.move rfl) ?_
      refine LW.pure rfl rfl (RV.indexAddr Ts43 rfl rfl hbx2 (((H.tab 0 rfl).rowO hx1 hh1).sl.addr_ hx2)) ?_
      refine LW.pure rfl rfl (RV.load1 Tk3 rfl (((H.tab 0 rfl).rowO hx1 hh1).sl.at_ hx2) rfl) ?_
      refine LW.pure rfl rfl (RV.lss rfl rfl) ?_
      refine LW.nil (hK9 _ _ ?_)
      by_cases hp2 : x2 < 0
      ·
        replace F := ite_y hp2 F
        have hq2 := dec_t hp2
        refine CW.condT rfl hq2 ?_
        refine CW.seq fun K10 hK10 => ?_
        refine CW.region ?_
        refine LW.pure rfl rfl (RV.assign rfl) ?_
        refine LW.nil (hK10 _ _ ?_)
        refine CW.ret ?_
        obtain rfl := Option.some.inj F
        refine ⟨_, (ResOK.one rfl), ?_⟩
        refine ⟨(by first | rfl | simp), R0⟩
      ·
        replace F := ite_n hp2 F
        have hq2 := dec_f hp2
        refine CW.condF rfl hq2 ?_
        refine CW.skip (hK8 _ _ ?_)
        obtain ⟨hg1, F⟩ := gd_some F
        refine CW.region ?_
        refine LW.pure rfl rfl (RV.move rfl) ?_
        refine LW.pure rfl rfl (RV.add rfl rfl hg1) ?_
        refine LW.pure rfl rfl (RV.assign rfl) ?_
        refine LW.nil ?_
        subst hrec1
        refine ⟨mk1, Nat.lt_succ_self _, _, ?_, (t5_1 + 1), F, rfl, H⟩
        exact ⟨rfl, rfl, (look_slice rfl (by first | rfl | (simp; done) | (simp; omega))), rfl, trivial⟩
    ·
      replace F := ite_n hp1 F
      have hq1 := dec_f hp1
      refine CW.condF rfl hq1 ?_
      replace H := H.pick (L' := []) [] (by decide) rfl
      replace R0 := H.ext
      refine CW.exit (jK56 _ _ ⟨_, ?_, ⟨F, rfl, H⟩⟩)
      exact ⟨rfl, trivial⟩

set_option maxRecDepth 20000 in
set_option maxHeartbeats 1000000 in
theorem ref03_IsPossible_ok {a0 : Core} {A_a0_bounds : Option Addr} {c_a0_bounds : Nat} {w : World} {res : Bool × Int} (h_a0_bounds : Sl w A_a0_bounds c_a0_bounds 3 (a0.bounds.map encBound)) (F : ref03_IsPossible a0 = some res) : Calls Try.prog 35 #[.agg #[.int .i64 a0.layers, .slice A_a0_bounds a0.bounds.length c_a0_bounds]] w (Rt w (.tuple #[.bool res.1, .int .i64 res.2])) := by
  refine calls_of_cw (args := [.agg #[.int .i64 a0.layers, .slice A_a0_bounds a0.bounds.length c_a0_bounds]]) Try.func35 rfl rfl rfl rfl ?_
  have H := Hp.start w
  have R0 := H.ext
  unfold ref03_IsPossible at F
  refine CW.seq fun K1 hK1 => ?_
  refine CW.region ?_
  refine LW.go rfl rfl (OW.box rfl fun b1 w1 N1 => ?_)
  replace H := H.new N1 N1.blk
  replace R0 := H.ext
  refine LW.pure rfl rfl (RV.assign rfl) ?_
  refine LW.pure rfl rfl (RV.assign rfl) ?_
  refine LW.nil (hK1 _ _ ?_)
  refine CW.seq fun K2 hK2 => ?_
  refine CW.seq fun K3 hK3 => ?_
  obtain ⟨r1, hr1, F⟩ := bnd_some F
  refine CW.region ?_
  refine LW.pure rfl rfl (RV.loadA [.int .i64 a0.layers, .slice A_a0_bounds a0.bounds.length c_a0_bounds] Tk24 rfl (H.blk 0 rfl).cells rfl rfl) ?_
  refine LW.go rfl rfl (OW.call Tc37 rfl (ref03_Validate_ok (a0 := a0) (h_a0_bounds.ext R0) hr1) ?_)
  rintro _ w2 ⟨rfl, E1⟩
  refine ⟨_, rfl, ?_⟩
  replace H := H.grow E1
  replace R0 := H.ext
  refine LW.pure rfl rfl (RV.assign rfl) ?_
  refine LW.nil (hK3 _ _ ?_)
  refine CW.seq fun K4 hK4 => ?_
  refine CW.region ?_
  refine LW.pure rfl rfl (RV.move rfl) ?_
  refine LW.pure rfl rfl (RV.nei rfl rfl) ?_
  refine LW.nil (hK4 _ _ ?_)
  by_cases hp1 : r1 = 0
  ·
    replace F := ite_y hp1 F
    have hq1 := dec_t hp1
    refine CW.condF rfl (not_f hq1) ?_
    refine CW.skip (hK2 _ _ ?_)
    refine CW.seq fun K5 hK5 => ?_
    obtain ⟨r2, hr2, F⟩ := bnd_some F
    refine CW.region ?_
    refine LW.pure rfl rfl (RV.loadA [.int .i64 a0.layers, .slice A_a0_bounds a0.bounds.length c_a0_bounds] Tk24 rfl (H.blk 0 rfl).cells rfl rfl) ?_
    refine LW.go rfl rfl (OW.call Tc69 rfl (ref03_clashes_ok (a0 := a0) (h_a0_bounds.ext R0) hr2) ?_)
    rintro _ w3 ⟨rfl, E2⟩
    refine ⟨_, rfl, ?_⟩
    replace H := H.grow E2
    replace R0 := H.ext
    refine LW.pure rfl rfl (RV.not rfl) ?_
    refine LW.pure rfl rfl (RV.assign rfl) ?_
    refine LW.pure rfl rfl (RV.assign rfl) ?_
    refine LW.nil (hK5 _ _ ?_)
    refine CW.ret ?_
    obtain rfl := Option.some.inj F
    refine ⟨_, (ResOK.two rfl rfl), ?_⟩
    refine ⟨(by first | rfl | simp), R0⟩
  ·
    replace F := ite_n hp1 F
    have hq1 := dec_f hp1
    refine CW.condT rfl (not_t hq1) ?_
    refine CW.seq fun K6 hK6 => ?_
    refine CW.region ?_
    refine LW.pure rfl rfl (RV.move rfl) ?_
    refine LW.pure rfl rfl (RV.assign rfl) ?_
    refine LW.pure rfl rfl (RV.assign rfl) ?_
    refine LW.nil (hK6 _ _ ?_)
    refine CW.ret ?_
    obtain rfl := Option.some.inj F
    refine ⟨_, (ResOK.two rfl rfl), ?_⟩
    refine ⟨(by first | rfl | simp), R0⟩

set_option maxRecDepth 20000 in
set_option maxHeartbeats 1000000 in
theorem slices_IndexFunc_int_ok {a0 : List Int} {a1 : Int → Option Bool} {A_a0 : Option Addr} {c_a0 : Nat} {f_a1 : Nat} {p_a1 : Array Value} {q_a1 : Array Value} {w : World} {res : Int} (h_a0 : Sl w A_a0 c_a0 1 (a0.map encN)) (h_a1 : ∀ (x2 : Int) (r : Bool), a1 x2 = some r → ∀ w1, Ext w w1 → CallsV Try.prog f_a1 p_a1 q_a1 #[.int .i64 x2] w1 (Rt w1 (.bool r))) (F : slices_IndexFunc_int a0 a1 = some res) : Calls Try.prog 94 #[.slice A_a0 a0.length c_a0, .func (.func f_a1) p_a1 q_a1] w (Rt w (.int .i64 res)) := by
  refine calls_of_cw (args := [.slice A_a0 a0.length c_a0, .func (.func f_a1) p_a1 q_a1]) Try.func94 rfl rfl rfl rfl ?_
  have H := Hp.start w
  have R0 := H.ext
  unfold slices_IndexFunc_int at F
  refine CW.seq fun K1 hK1 => ?_
  refine CW.region ?_
  refine LW.pure rfl rfl (RV.assign rfl) ?_
  refine LW.nil (hK1 _ _ ?_)
  refine CW.seqJ (fun ρ wl1 => (slices_IndexFunc_int_k1 = some res ∧ ρ = [(4, .int .i64 0)] ∧ Hp w wl1 [])) ?_ ?_
  ·
    rintro _ wl1 ⟨F, rfl, H⟩
    have R0 := H.ext
    unfold slices_IndexFunc_int_k1 at F
    refine CW.seq fun K2 hK2 => ?_
    refine CW.region ?_
    refine LW.pure rfl rfl (RV.assign rfl) ?_
    refine LW.nil (hK2 _ _ ?_)
    refine CW.ret ?_
    obtain rfl := Option.some.inj F
    refine ⟨_, (ResOK.one rfl), ?_⟩
    refine ⟨(by first | rfl | simp), R0⟩
  ·
    intro K3 hK3 jK63
    refine CW.seq fun K4 hK4 => ?_
    refine CW.region ?_
    refine LW.pure rfl rfl (RV.move rfl) ?_
    refine LW.pure rfl rfl (RV.len Ts43 rfl) ?_
    refine LW.pure rfl rfl (RV.move rfl) ?_
    refine LW.nil (hK4 _ _ ?_)
    refine CW.block ?_
    refine CW.loop (fun meas ρ wl2 => ∃ (t8_1 : Int), slices_IndexFunc_int_L1 a0 a1 meas t8_1 = some res ∧ ρ = [(0, .slice A_a0 a0.length c_a0), (1, .func (.func f_a1) p_a1 q_a1), (4, .int .i64 0), (7, .int .i64 ((a0.length : Int))), (8, .int .i64 t8_1)] ∧ Hp w wl2 []) FU ⟨_, ?_, ((0 : Int)), F, rfl, H⟩ ?_
    · exact ⟨rfl, rfl, rfl, rfl, rfl, trivial⟩
    rintro mk1 _ wl2 ⟨t8_1, F, rfl, H⟩
    have R0 := H.ext
    replace F := slices_IndexFunc_int_L1_s F
    obtain ⟨mk1, rfl, F⟩ := F
    generalize hrec1 : slices_IndexFunc_int_L1 a0 a1 mk1 = rec1 at F
    unfold slices_IndexFunc_int_B1 at F
    refine CW.seq fun K5 hK5 => ?_
    refine CW.region ?_
    refine LW.pure rfl rfl (RV.lss rfl rfl) ?_
    refine LW.nil (hK5 _ _ ?_)
    refine CW.seq fun K6 hK6 => ?_
    by_cases hp1 : t8_1 < ((a0.length : Int))
    ·
      replace F := ite_y hp1 F
      have hq1 := dec_t hp1
      refine CW.condT rfl hq1 ?_
      refine CW.skip (hK6 _ _ ?_)
      refine CW.seq fun K7 hK7 => ?_
      refine CW.block ?_
      refine CW.seq fun K8 hK8 => ?_
      refine CW.region ?_
      refine LW.pure rfl rfl (RV.move rfl) ?_
      refine LW.pure rfl rfl (RV.assign rfl) ?_
      refine LW.nil (hK8 _ _ ?_)
      refine CW.seq fun K9 hK9 => ?_
      obtain ⟨x1, hbx1, hx1, F⟩ := ix_some F
      obtain ⟨r1, hr1, F⟩ := bnd_some F
      refine CW.region ?_
      refine LW.pure rfl rfl (RV.move rfl) ?_
      refine LW.pure rfl rfl (RV.move rfl) ?_
      refine LW.pure rfl rfl (RV.move rfl) ?_
      refine LW.pure rfl rfl (RV.indexAddr Ts43 rfl rfl hbx1 (h_a0.addr_ hx1)) ?_
      refine LW.pure rfl rfl (RV.load1 Tk3 rfl ((h_a0.at_ hx1).ext R0) rfl) ?_
      refine LW.go rfl rfl (OW.callV2 rfl rfl rfl (h_a1 _ _ hr1 _ R0) ?_)
      rintro _ w2 ⟨rfl, E1⟩
      refine ⟨_, rfl, ?_⟩
      replace H := H.grow E1
      replace R0 := H.ext
      refine LW.nil (hK9 _ _ ?_)
      by_cases hp2 : r1 = true
      ·
        replace F := ite_y hp2 F
        have hq2 : r1 = true := hp2
        refine CW.condT rfl hq2 ?_
        refine CW.seq fun K10 hK10 => ?_
        refine CW.region ?_
        refine LW.pure rfl rfl (RV.move rfl) ?_
        refine LW.pure rfl rfl (RV.assign rfl) ?_
        refine LW.nil (hK10 _ _ ?_)
        refine CW.ret ?_
        obtain rfl := Option.some.inj F
        refine ⟨_, (ResOK.one rfl), ?_⟩
        refine ⟨(by first | rfl | simp), R0⟩
      ·
        replace F := ite_n hp2 F
        have hq2 : r1 = false := raw_f hp2
        refine CW.condF rfl hq2 ?_
        refine CW.skip (hK7 _ _ ?_)
        obtain ⟨hg1, F⟩ := gd_some F
        refine CW.region ?_
        refine LW.pure rfl rfl (RV.add rfl rfl hg1) ?_
        refine LW.pure rfl rfl (RV.move rfl) ?_
        refine LW.nil ?_
        subst hrec1
        refine ⟨mk1, Nat.lt_succ_self _, _, ?_, (t8_1 + 1), F, rfl, H⟩
        exact ⟨rfl, rfl, rfl, rfl, rfl, trivial⟩
    ·
      replace F := ite_n hp1 F
      have hq1 := dec_f hp1
      refine CW.condF rfl hq1 ?_
      refine CW.exit (jK63 _ _ ⟨_, ?_, ⟨F, rfl, H⟩⟩)
      exact ⟨rfl, trivial⟩

set_option maxRecDepth 20000 in
set_option maxHeartbeats 1000000 in
theorem slices_ContainsFunc_int_ok {a0 : List Int} {a1 : Int → Option Bool} {A_a0 : Option Addr} {c_a0 : Nat} {f_a1 : Nat} {p_a1 : Array Value} {q_a1 : Array Value} {w : World} {res : Bool} (h_a0 : Sl w A_a0 c_a0 1 (a0.map encN)) (h_a1 : ∀ (x0 : Int) (r : Bool), a1 x0 = some r → ∀ w1, Ext w w1 → CallsV Try.prog f_a1 p_a1 q_a1 #[.int .i64 x0] w1 (Rt w1 (.bool r))) (F : slices_ContainsFunc_int a0 a1 = some res) : Calls Try.prog 85 #[.slice A_a0 a0.length c_a0, .func (.func f_a1) p_a1 q_a1] w (Rt w (.bool res)) := by
  refine calls_of_cw (args := [.slice A_a0 a0.length c_a0, .func (.func f_a1) p_a1 q_a1]) Try.func85 rfl rfl rfl rfl ?_
  have H := Hp.start w
  have R0 := H.ext
  unfold slices_ContainsFunc_int at F
  refine CW.seq fun K1 hK1 => ?_
  refine CW.region ?_
  refine LW.pure rfl rfl (RV.assign rfl) ?_
  refine LW.nil (hK1 _ _ ?_)
  refine CW.seq fun K2 hK2 => ?_
  obtain ⟨r1, hr1, F⟩ := bnd_some F
  refine CW.region ?_
  refine LW.pure rfl rfl (RV.move rfl) ?_
  refine LW.pure rfl rfl (RV.move rfl) ?_
  refine LW.go rfl rfl (OW.call Tc94 rfl (slices_IndexFunc_int_ok (a0 := a0) (a1 := a1) (h_a0.ext R0) (fun x0 r hF w1 hE => h_a1 x0 r hF w1 (R0.trans hE)) hr1) ?_)
  rintro _ w2 ⟨rfl, E1⟩
  refine ⟨_, rfl, ?_⟩
  replace H := H.grow E1
  replace R0 := H.ext
  refine LW.pure rfl rfl (RV.geq rfl rfl) ?_
  refine LW.pure rfl rfl (RV.assign rfl) ?_
  refine LW.nil (hK2 _ _ ?_)
  refine CW.ret ?_
  obtain rfl := Option.some.inj F
  refine ⟨_, (ResOK.one rfl), ?_⟩
  refine ⟨(by first | rfl | simp), R0⟩

set_option maxRecDepth 20000 in
set_option maxHeartbeats 1000000 in
theorem core_dated_1_ok {a0 : Int} {w : World} {res : Bool} (F : core_dated_1 a0 = some res) : Calls Try.prog 86 #[.int .i64 a0] w (Rt w (.bool res)) := by
  refine calls_of_cw (args := [.int .i64 a0]) Try.func86 rfl rfl rfl rfl ?_
  have H := Hp.start w
  have R0 := H.ext
  unfold core_dated_1 at F
  refine CW.seq fun K1 hK1 => ?_
  refine CW.region ?_
  refine LW.pure rfl rfl (RV.assign rfl) ?_
  refine LW.nil (hK1 _ _ ?_)
  refine CW.seq fun K2 hK2 => ?_
  obtain ⟨r1, hr1, F⟩ := bnd_some F
  refine CW.region ?_
  refine LW.pure rfl rfl (RV.move rfl) ?_
  refine LW.go rfl rfl (OW.call Tc70 rfl (core_within_ok (a0 := a0) (a1 := (-1000000 : Int)) (a2 := (1000000 : Int)) hr1) ?_)
  rintro _ w1 ⟨rfl, E1⟩
  refine ⟨_, rfl, ?_⟩
  replace H := H.grow E1
  replace R0 := H.ext
  refine LW.pure rfl rfl (RV.not rfl) ?_
  refine LW.pure rfl rfl (RV.assign rfl) ?_
  refine LW.nil (hK2 _ _ ?_)
  refine CW.ret ?_
  obtain rfl := Option.some.inj F
  refine ⟨_, (ResOK.one rfl), ?_⟩
  refine ⟨(by first | rfl | simp), R0⟩

set_option maxRecDepth 20000 in
set_option maxHeartbeats 1000000 in
theorem core_dated_ok {a0 : Core} {a1 : List Int} {A_a0_bounds : Option Addr} {c_a0_bounds : Nat} {A_a1 : Option Addr} {c_a1 : Nat} {w : World} {res : Int} (h_a0_bounds : Sl w A_a0_bounds c_a0_bounds 3 (a0.bounds.map encBound)) (h_a1 : Sl w A_a1 c_a1 1 (a1.map encN)) (F : core_dated a0 a1 = some res) : Calls Try.prog 67 #[.agg #[.int .i64 a0.layers, .slice A_a0_bounds a0.bounds.length c_a0_bounds], .slice A_a1 a1.length c_a1] w (Rt w (.int .i64 res)) := by
  refine calls_of_cw (args := [.agg #[.int .i64 a0.layers, .slice A_a0_bounds a0.bounds.length c_a0_bounds], .slice A_a1 a1.length c_a1]) Try.func67 rfl rfl rfl rfl ?_
  have H := Hp.start w
  have R0 := H.ext
  unfold core_dated at F
  refine CW.seq fun K1 hK1 => ?_
  refine CW.region ?_
  refine LW.go rfl rfl (OW.box rfl fun b1 w1 N1 => ?_)
  replace H := H.new N1 N1.blk
  replace R0 := H.ext
  refine LW.pure rfl rfl (RV.assign rfl) ?_
  refine LW.nil (hK1 _ _ ?_)
  refine CW.seq fun K2 hK2 => ?_
  refine CW.seq fun K3 hK3 => ?_
  obtain ⟨r1, hr1, F⟩ := bnd_some F
  refine CW.region ?_
  refine LW.pure rfl rfl (RV.loadA [.int .i64 a0.layers, .slice A_a0_bounds a0.bounds.length c_a0_bounds] Tk24 rfl (H.blk 0 rfl).cells rfl rfl) ?_
  refine LW.go rfl rfl (OW.call Tc36 rfl (core_Validate_ok (a0 := a0) (h_a0_bounds.ext R0) hr1) ?_)
  rintro _ w2 ⟨rfl, E1⟩
  refine ⟨_, rfl, ?_⟩
  replace H := H.grow E1
  replace R0 := H.ext
  refine LW.pure rfl rfl (RV.assign rfl) ?_
  refine LW.nil (hK3 _ _ ?_)
  refine CW.seq fun K4 hK4 => ?_
  refine CW.region ?_
  refine LW.pure rfl rfl (RV.move rfl) ?_
  refine LW.pure rfl rfl (RV.nei rfl rfl) ?_
  refine LW.nil (hK4 _ _ ?_)
  by_cases hp1 : r1 = 0
  ·
    replace F := ite_y hp1 F
    have hq1 := dec_t hp1
    refine CW.condF rfl (not_f hq1) ?_
    refine CW.skip (hK2 _ _ ?_)
    refine CW.seq fun K5 hK5 => ?_
    refine CW.seqJ (fun ρ wl1 => (∃ (t19_1 : Bool), core_dated_k1 t19_1 = some res ∧ ρ = [(4, .int .i64 0), (19, .bool t19_1)] ∧ Hp w wl1 [])) ?_ ?_
    ·
      rintro _ wl1 ⟨t19_1, F, rfl, H⟩
      have R0 := H.ext
      unfold core_dated_k1 at F
      by_cases hp2 : t19_1 = true
      ·
        replace F := ite_y hp2 F
        have hq2 : t19_1 = true := hp2
        refine CW.condT rfl hq2 ?_
        refine CW.seq fun K6 hK6 => ?_
        refine CW.region ?_
        refine LW.pure rfl rfl (RV.assign rfl) ?_
        refine LW.nil (hK6 _ _ ?_)
        refine CW.ret ?_
        obtain rfl := Option.some.inj F
        refine ⟨_, (ResOK.one rfl), ?_⟩
        refine ⟨(by first | rfl | simp), R0⟩
      ·
        replace F := ite_n hp2 F
        have hq2 : t19_1 = false := raw_f hp2
        refine CW.condF rfl hq2 ?_
        refine CW.skip (hK5 _ _ ?_)
        refine CW.seq fun K7 hK7 => ?_
        refine CW.region ?_
        refine LW.pure rfl rfl (RV.assign rfl) ?_
        refine LW.nil (hK7 _ _ ?_)
        refine CW.ret ?_
        obtain rfl := Option.some.inj F
        refine ⟨_, (ResOK.one rfl), ?_⟩
        refine ⟨(by first | rfl | simp), R0⟩
    ·
      intro K8 hK8 jK17
      by_cases hp3 : ((a1.length : Int)) = a0.layers
      ·
        replace F := ite_y hp3 F
        have hq3 := dec_t hp3
        obtain ⟨r2, hr2, F⟩ := bnd_some F
        refine CW.region ?_
        refine LW.pure rfl rfl (RV.move rfl) ?_
        refine LW.pure rfl rfl (RV.len Ts43 rfl) ?_
        refine LW.pure rfl rfl (RV.fieldAddr Tf24_0 rfl) ?_
        refine LW.pure rfl rfl (RV.load1 Tk3 rfl ((H.blk 0 rfl).cells.off 0) rfl) ?_
        refine LW.pure rfl rfl (RV.nei rfl rfl) ?_
        refine LW.pure rfl rfl (RV.move rfl) ?_
        refine LW.pureYB rfl rfl rfl rfl (not_f hq3) (RV.move rfl) ?_
        refine LW.yesB rfl rfl rfl rfl (not_f hq3) (OW.call Tc85 rfl (slices_ContainsFunc_int_ok (a0 := a1) (a1 := core_dated_1) (h_a1.ext R0) (fun x0 r hF w3 hE => CallsV.of Tc86 (core_dated_1_ok hF)) hr2) ?_)
        rintro _ w4 ⟨rfl, E2⟩
        refine ⟨_, rfl, ?_⟩
        replace H := H.grow E2
        replace R0 := H.ext
        refine LW.pure rfl rfl (RV.pickFB rfl (not_f hq3) rfl) ?_
        replace H := H.pick (L' := []) [] (by decide) rfl
        replace R0 := H.ext
        refine LW.nil (jK17 _ _ ⟨_, ?_, ⟨r2, F, rfl, H⟩⟩)
        exact ⟨rfl, rfl, trivial⟩
      ·
        replace F := ite_n hp3 F
        have hq3 := dec_f hp3
        refine CW.region ?_
        refine LW.pure rfl rfl (RV.move rfl) ?_
        refine LW.pure rfl rfl (RV.len Ts43 rfl) ?_
        refine LW.pure rfl rfl (RV.fieldAddr Tf24_0 rfl) ?_
        refine LW.pure rfl rfl (RV.load1 Tk3 rfl ((H.blk 0 rfl).cells.off 0) rfl) ?_
        refine LW.pure rfl rfl (RV.nei rfl rfl) ?_
        refine LW.pure rfl rfl (RV.move rfl) ?_
        refine LW.noB rfl rfl rfl rfl (ne_beq (v := true) (not_t hq3) rfl) ?_
        refine LW.noB rfl rfl rfl rfl (ne_beq (v := true) (not_t hq3) rfl) ?_
        refine LW.pure rfl rfl (RV.pickTB rfl (not_t hq3) rfl) ?_
        replace H := H.pick (L' := []) [] (by decide) rfl
        replace R0 := H.ext
        refine LW.nil (jK17 _ _ ⟨_, ?_, ⟨true, F, rfl, H⟩⟩)
        exact ⟨rfl, rfl, trivial⟩
  ·
    replace F := ite_n hp1 F
    have hq1 := dec_f hp1
    refine CW.condT rfl (not_t hq1) ?_
    refine CW.seq fun K9 hK9 => ?_
    refine CW.region ?_
    refine LW.pure rfl rfl (RV.move rfl) ?_
    refine LW.pure rfl rfl (RV.assign rfl) ?_
    refine LW.nil (hK9 _ _ ?_)
    refine CW.ret ?_
    obtain rfl := Option.some.inj F
    refine ⟨_, (ResOK.one rfl), ?_⟩
    refine ⟨(by first | rfl | simp), R0⟩

set_option maxRecDepth 20000 in
set_option maxHeartbeats 1000000 in
theorem core_CheckDates_ok {a0 : Core} {a1 : List Int} {A_a0_bounds : Option Addr} {c_a0_bounds : Nat} {A_a1 : Option Addr} {c_a1 : Nat} {w : World} {res : Int} (h_a0_bounds : Sl w A_a0_bounds c_a0_bounds 3 (a0.bounds.map encBound)) (h_a1 : Sl w A_a1 c_a1 1 (a1.map encN)) (F : core_CheckDates a0 a1 = some res) : Calls Try.prog 33 #[.agg #[.int .i64 a0.layers, .slice A_a0_bounds a0.bounds.length c_a0_bounds], .slice A_a1 a1.length c_a1] w (Rt w (.int .i64 res)) := by
  refine calls_of_cw (args := [.agg #[.int .i64 a0.layers, .slice A_a0_bounds a0.bounds.length c_a0_bounds], .slice A_a1 a1.length c_a1]) Try.func33 rfl rfl rfl rfl ?_
  have H := Hp.start w
  have R0 := H.ext
  unfold core_CheckDates at F
  refine CW.seq fun K1 hK1 => ?_
  refine CW.region ?_
  refine LW.go rfl rfl (OW.box rfl fun b1 w1 N1 => ?_)
  replace H := H.new N1 N1.blk
  replace R0 := H.ext
  refine LW.pure rfl rfl (RV.assign rfl) ?_
  refine LW.nil (hK1 _ _ ?_)
  refine CW.seq fun K2 hK2 => ?_
  refine CW.seq fun K3 hK3 => ?_
  obtain ⟨r1, hr1, F⟩ := bnd_some F
  refine CW.region ?_
  refine LW.pure rfl rfl (RV.loadA [.int .i64 a0.layers, .slice A_a0_bounds a0.bounds.length c_a0_bounds] Tk24 rfl (H.blk 0 rfl).cells rfl rfl) ?_
  refine LW.pure rfl rfl (RV.move rfl) ?_
  refine LW.go rfl rfl (OW.call Tc67 rfl (core_dated_ok (a0 := a0) (a1 := a1) (h_a0_bounds.ext R0) (h_a1.ext R0) hr1) ?_)
  rintro _ w2 ⟨rfl, E1⟩
  refine ⟨_, rfl, ?_⟩
  replace H := H.grow E1
  replace R0 := H.ext
  refine LW.pure rfl rfl (RV.assign rfl) ?_
  refine LW.nil (hK3 _ _ ?_)
  refine CW.seq fun K4 hK4 => ?_
  refine CW.region ?_
  refine LW.pure rfl rfl (RV.move rfl) ?_
  refine LW.pure rfl rfl (RV.nei rfl rfl) ?_
  refine LW.nil (hK4 _ _ ?_)
  by_cases hp1 : r1 = 0
  ·
    replace F := ite_y hp1 F
    have hq1 := dec_t hp1
    refine CW.condF rfl (not_f hq1) ?_
    refine CW.skip (hK2 _ _ ?_)
    refine CW.seqJ (fun ρ wl1 => (core_CheckDates_k1 = some res ∧ ρ = [(4, .int .i64 0)] ∧ Hp w wl1 [])) ?_ ?_
    ·
      rintro _ wl1 ⟨F, rfl, H⟩
      have R0 := H.ext
      unfold core_CheckDates_k1 at F
      refine CW.seq fun K5 hK5 => ?_
      refine CW.region ?_
      refine LW.pure rfl rfl (RV.assign rfl) ?_
      refine LW.nil (hK5 _ _ ?_)
      refine CW.ret ?_
      obtain rfl := Option.some.inj F
      refine ⟨_, (ResOK.one rfl), ?_⟩
      refine ⟨(by first | rfl | simp), R0⟩
    ·
      intro K6 hK6 jK70
      refine CW.seq fun K7 hK7 => ?_
      refine CW.region ?_
      refine LW.pure rfl rfl (RV.fieldAddr Tf24_1 rfl) ?_
      refine LW.pure rfl rfl (RV.load1 Tk22 rfl ((H.blk 0 rfl).cells.off 1) rfl) ?_
      refine LW.pure rfl rfl (RV.len Ts22 rfl) ?_
      refine LW.pure rfl rfl (RV.move rfl) ?_
      refine LW.nil (hK7 _ _ ?_)
      refine CW.block ?_
      replace H := H.pick (L' := []) [] (by decide) rfl
      replace R0 := H.ext
      refine CW.loop (fun meas ρ wl2 => ∃ (t17_1 : Int), core_CheckDates_L1 a0 a1 meas t17_1 = some res ∧ ρ = [(1, .slice A_a1 a1.length c_a1), (4, .int .i64 0), (15, .slice A_a0_bounds a0.bounds.length c_a0_bounds), (16, .int .i64 ((a0.bounds.length : Int))), (17, .int .i64 t17_1)] ∧ Hp w wl2 []) FU ⟨_, ?_, ((0 : Int)), F, rfl, H⟩ ?_
      · exact ⟨rfl, rfl, rfl, rfl, rfl, trivial⟩
      rintro mk1 _ wl2 ⟨t17_1, F, rfl, H⟩
      have R0 := H.ext
      replace F := core_CheckDates_L1_s F
      obtain ⟨mk1, rfl, F⟩ := F
      generalize hrec1 : core_CheckDates_L1 a0 a1 mk1 = rec1 at F
      unfold core_CheckDates_B1 at F
      refine CW.seq fun K8 hK8 => ?_
      refine CW.region ?_
      refine LW.pure rfl rfl (RV.lss rfl rfl) ?_
      refine LW.nil (hK8 _ _ ?_)
      refine CW.seq fun K9 hK9 => ?_
      by_cases hp2 : t17_1 < ((a0.bounds.length : Int))
      ·
        replace F := ite_y hp2 F
        have hq2 := dec_t hp2
        refine CW.condT rfl hq2 ?_
        refine CW.skip (hK9 _ _ ?_)
        refine CW.seq fun K10 hK10 => ?_
        refine CW.block ?_
        refine CW.seq fun K11 hK11 => ?_
        obtain ⟨x1, hbx1, hx1, F⟩ := ix_some F
        refine CW.region ?_
        refine LW.pure rfl rfl (RV.indexAddr Ts22 rfl rfl hbx1 (h_a0_bounds.addr_ hx1)) ?_
        refine LW.pure rfl rfl (RV.loadA [.int .i64 x1.a, .int .i64 x1.b, .int .i64 x1.most] Tk26 rfl ((h_a0_bounds.at_ hx1).ext R0) rfl rfl) ?_
        refine LW.go rfl rfl (OW.alloc Tz26 fun b2 w3 N2 => ?_)
        replace H := H.new N2 N2.blk
        replace R0 := H.ext
        refine LW.go rfl rfl (OW.store Tk26 rfl rfl (H.blk 0 rfl) (off := 0) (vs := [.int .i64 x1.a, .int .i64 x1.b, .int .i64 x1.most]) rfl rfl rfl rfl rfl fun w4 S1 => ?_)
        replace H : Hp w w4 [.blk b2 26 [.int .i64 x1.a, .int .i64 x1.b, .int .i64 x1.most]] := H.stored 0 rfl S1
        replace R0 := H.ext
        refine LW.nil (hK11 _ _ ?_)
        refine CW.seq fun K12 hK12 => ?_
        obtain ⟨x2, hbx2, hx2, F⟩ := ix_some F
        obtain ⟨x3, hbx3, hx3, F⟩ := ix_some F
        obtain ⟨hg1, F⟩ := gd_some F
        refine CW.draw [] (fun _ => True) (.cons 0 1 (.cons 1 1 (.cons 2 1 (.cons 3 1 (.cons 4 1 (.cons 5 1 (.cons 6 1 (.cons 7 1 (.cons 8 1 (.cons 9 1 (.cons 10 1 (.cons 11 1 (.cons 12 1 (.cons 13 1 .nil)))))))))))))) mixed (by kernel_rfl) fun w5 E2 => ?_
        replace H := H.grow E2
        replace R0 := H.ext
        refine DW.fix rfl rfl rfl (fun _ EQ => RV.move rfl) ?_
        refine DW.fix rfl rfl rfl (fun _ EQ => RV.fieldAddr Tf26_1 rfl) ?_
        refine DW.fix rfl rfl rfl (fun _ EQ => RV.load1 Tk3 rfl (((H.grow EQ).blk 0 rfl).cells.off 1) rfl) ?_
        refine DW.fix rfl rfl rfl (fun _ EQ => RV.indexAddr Ts43 rfl rfl hbx2 (h_a1.addr_ hx2)) ?_
        refine DW.fix rfl rfl rfl (fun _ EQ => RV.load1 Tk3 rfl ((h_a1.at_ hx2).ext (R0.trans EQ)) rfl) ?_
        refine DW.fix rfl rfl rfl (fun _ EQ => RV.move rfl) ?_
        refine DW.fix rfl rfl rfl (fun _ EQ => RV.fieldAddr Tf26_0 rfl) ?_
        refine DW.fix rfl rfl rfl (fun _ EQ => RV.load1 Tk3 rfl (((H.grow EQ).blk 0 rfl).cells.off 0) rfl) ?_
        refine DW.fix rfl rfl rfl (fun _ EQ => RV.indexAddr Ts43 rfl rfl hbx3 (h_a1.addr_ hx3)) ?_
        refine DW.fix rfl rfl rfl (fun _ EQ => RV.load1 Tk3 rfl ((h_a1.at_ hx3).ext (R0.trans EQ)) rfl) ?_
        refine DW.fix rfl rfl rfl (fun _ EQ => RV.sub rfl rfl hg1) ?_
        refine DW.fix rfl rfl rfl (fun _ EQ => RV.fieldAddr Tf26_2 rfl) ?_
        refine DW.fix rfl rfl rfl (fun _ EQ => RV.load1 Tk3 rfl (((H.grow EQ).blk 0 rfl).cells.off 2) rfl) ?_
        refine DW.fix rfl rfl rfl (fun _ EQ => RV.gtr rfl rfl) ?_
        refine DW.nil (hK12 _ _ ?_)
        by_cases hp3 : x1.most < (x2 - x3)
        ·
          replace F := ite_y hp3 F
          have hq3 := dec_t hp3
          refine CW.condT rfl hq3 ?_
          refine CW.seq fun K13 hK13 => ?_
          refine CW.region ?_
          refine LW.pure rfl rfl (RV.assign rfl) ?_
          refine LW.nil (hK13 _ _ ?_)
          refine CW.ret ?_
          obtain rfl := Option.some.inj F
          refine ⟨_, (ResOK.one rfl), ?_⟩
          refine ⟨(by first | rfl | simp), R0⟩
        ·
          replace F := ite_n hp3 F
          have hq3 := dec_f hp3
          refine CW.condF rfl hq3 ?_
          refine CW.skip (hK10 _ _ ?_)
          obtain ⟨hg2, F⟩ := gd_some F
          refine CW.region ?_
          refine LW.pure rfl rfl (RV.add rfl rfl hg2) ?_
          refine LW.pure rfl rfl (RV.move rfl) ?_
          refine LW.nil ?_
          replace H := H.pick (L' := []) [] (by decide) rfl
          replace R0 := H.ext
          subst hrec1
          refine ⟨mk1, Nat.lt_succ_self _, _, ?_, (t17_1 + 1), F, rfl, H⟩
          exact ⟨rfl, rfl, rfl, rfl, rfl, trivial⟩
      ·
        replace F := ite_n hp2 F
        have hq2 := dec_f hp2
        refine CW.condF rfl hq2 ?_
        refine CW.exit (jK70 _ _ ⟨_, ?_, ⟨F, rfl, H⟩⟩)
        exact ⟨rfl, trivial⟩
  ·
    replace F := ite_n hp1 F
    have hq1 := dec_f hp1
    refine CW.condT rfl (not_t hq1) ?_
    refine CW.seq fun K14 hK14 => ?_
    refine CW.region ?_
    refine LW.pure rfl rfl (RV.move rfl) ?_
    refine LW.pure rfl rfl (RV.assign rfl) ?_
    refine LW.nil (hK14 _ _ ?_)
    refine CW.ret ?_
    obtain rfl := Option.some.inj F
    refine ⟨_, (ResOK.one rfl), ?_⟩
    refine ⟨(by first | rfl | simp), R0⟩

set_option maxRecDepth 20000 in
set_option maxHeartbeats 1000000 in
theorem ref03_isDates_ok {a0 : Core} {a1 : List Int} {A_a0_bounds : Option Addr} {c_a0_bounds : Nat} {A_a1 : Option Addr} {c_a1 : Nat} {w : World} {res : Bool} (h_a0_bounds : Sl w A_a0_bounds c_a0_bounds 3 (a0.bounds.map encBound)) (h_a1 : Sl w A_a1 c_a1 1 (a1.map encN)) (F : ref03_isDates a0 a1 = some res) : Calls Try.prog 71 #[.agg #[.int .i64 a0.layers, .slice A_a0_bounds a0.bounds.length c_a0_bounds], .slice A_a1 a1.length c_a1] w (Rt w (.bool res)) := by
  refine calls_of_cw (args := [.agg #[.int .i64 a0.layers, .slice A_a0_bounds a0.bounds.length c_a0_bounds], .slice A_a1 a1.length c_a1]) Try.func71 rfl rfl rfl rfl ?_
  have H := Hp.start w
  have R0 := H.ext
  unfold ref03_isDates at F
  refine CW.seq fun K1 hK1 => ?_
  refine CW.region ?_
  refine LW.go rfl rfl (OW.box rfl fun b1 w1 N1 => ?_)
  replace H := H.new N1 N1.blk
  replace R0 := H.ext
  refine LW.pure rfl rfl (RV.assign rfl) ?_
  refine LW.nil (hK1 _ _ ?_)
  refine CW.seq fun K2 hK2 => ?_
  refine CW.seq fun K3 hK3 => ?_
  refine CW.region ?_
  refine LW.pure rfl rfl (RV.move rfl) ?_
  refine LW.pure rfl rfl (RV.len Ts43 rfl) ?_
  refine LW.pure rfl rfl (RV.fieldAddr Tf24_0 rfl) ?_
  refine LW.pure rfl rfl (RV.load1 Tk3 rfl ((H.blk 0 rfl).cells.off 0) rfl) ?_
  refine LW.pure rfl rfl (RV.nei rfl rfl) ?_
  refine LW.nil (hK3 _ _ ?_)
  by_cases hp1 : ((a1.length : Int)) = a0.layers
  ·
    replace F := ite_y hp1 F
    have hq1 := dec_t hp1
    refine CW.condF rfl (not_f hq1) ?_
    refine CW.skip (hK2 _ _ ?_)
    refine CW.seqJ (fun ρ wl1 => (ref03_isDates_k1 = some res ∧ ρ = [(4, .bool false)] ∧ Hp w wl1 [])) ?_ ?_
    ·
      rintro _ wl1 ⟨F, rfl, H⟩
      have R0 := H.ext
      unfold ref03_isDates_k1 at F
      refine CW.seq fun K4 hK4 => ?_
      refine CW.region ?_
      refine LW.pure rfl rfl (RV.assign rfl) ?_
      refine LW.nil (hK4 _ _ ?_)
      refine CW.ret ?_
      obtain rfl := Option.some.inj F
      refine ⟨_, (ResOK.one rfl), ?_⟩
      refine ⟨(by first | rfl | simp), R0⟩
    ·
      intro K5 hK5 jK59
      refine CW.seq fun K6 hK6 => ?_
      refine CW.region ?_
      refine LW.pure rfl rfl (RV.assign rfl) ?_
      refine LW.nil (hK6 _ _ ?_)
      refine CW.block ?_
      replace H := H.pick (L' := []) [] (by decide) rfl
      replace R0 := H.ext
      refine CW.loop (fun meas ρ wl2 => ∃ (t5_1 : Int), ref03_isDates_L1 a1 meas t5_1 = some res ∧ ρ = [(1, .slice A_a1 a1.length c_a1), (4, .bool false), (5, .int .i64 t5_1)] ∧ Hp w wl2 []) FU ⟨_, ?_, ((0 : Int)), F, rfl, H⟩ ?_
      · exact ⟨rfl, rfl, rfl, trivial⟩
      rintro mk1 _ wl2 ⟨t5_1, F, rfl, H⟩
      have R0 := H.ext
      replace F := ref03_isDates_L1_s F
      obtain ⟨mk1, rfl, F⟩ := F
      generalize hrec1 : ref03_isDates_L1 a1 mk1 = rec1 at F
      unfold ref03_isDates_B1 at F
      refine CW.seq fun K7 hK7 => ?_
      refine CW.seq fun K8 hK8 => ?_
      refine CW.region ?_
      refine LW.pure rfl rfl (RV.move rfl) ?_
      refine LW.pure rfl rfl (RV.move rfl) ?_
      refine LW.pure rfl rfl (RV.len Ts43 rfl) ?_
      refine LW.pure rfl rfl (RV.lss rfl rfl) ?_
      refine LW.nil (hK8 _ _ ?_)
      by_cases hp2 : t5_1 < ((a1.length : Int))
      ·
        replace F := ite_y hp2 F
        have hq2 := dec_t hp2
        refine CW.condT rfl hq2 ?_
        refine CW.skip (hK7 _ _ ?_)
        refine CW.seq fun K9 hK9 => ?_
        refine CW.block ?_
        refine CW.seq fun K10 hK10 => ?_
        obtain ⟨x1, hbx1, hx1, F⟩ := ix_some F
        obtain ⟨r1, hr1, F⟩ := bnd_some F
        refine CW.region ?_
        refine LW.pure rfl rfl (RV.move rfl) ?_
        refine LW.pure rfl rfl (RV.move rfl) ?_
        refine LW.pure rfl rfl (RV.indexAddr Ts43 rfl rfl hbx1 (h_a1.addr_ hx1)) ?_
        refine LW.pure rfl rfl (RV.load1 Tk3 rfl ((h_a1.at_ hx1).ext R0) rfl) ?_
        refine LW.go rfl rfl (OW.call Tc62 rfl (ref03_within_ok (a0 := x1) (a1 := (-1000000 : Int)) (a2 := (1000000 : Int)) hr1) ?_)
        rintro _ w2 ⟨rfl, E1⟩
        refine ⟨_, rfl, ?_⟩
        replace H := H.grow E1
        replace R0 := H.ext
        refine LW.pure rfl rfl (RV.not rfl) ?_
        refine LW.nil (hK10 _ _ ?_)
        by_cases hp3 : r1 = true
        ·
          replace F := ite_y hp3 F
          have hq3 : r1 = true := hp3
          refine CW.condF rfl (not_f hq3) ?_
          refine CW.skip (hK9 _ _ ?_)
          obtain ⟨hg1, F⟩ := gd_some F
          refine CW.region ?_
          refine LW.pure rfl rfl (RV.move rfl) ?_
          refine LW.pure rfl rfl (RV.add rfl rfl hg1) ?_
          refine LW.pure rfl rfl (RV.assign rfl) ?_
          refine LW.nil ?_
          subst hrec1
          refine ⟨mk1, Nat.lt_succ_self _, _, ?_, (t5_1 + 1), F, rfl, H⟩
          exact ⟨rfl, rfl, rfl, trivial⟩
        ·
          replace F := ite_n hp3 F
          have hq3 : r1 = false := raw_f hp3
          refine CW.condT rfl (not_t hq3) ?_
          refine CW.seq fun K11 hK11 => ?_
          refine CW.region ?_
          refine LW.pure rfl rfl (RV.assign rfl) ?_
          refine LW.nil (hK11 _ _ ?_)
          refine CW.ret ?_
          obtain rfl := Option.some.inj F
          refine ⟨_, (ResOK.one rfl), ?_⟩
          refine ⟨(by first | rfl | simp), R0⟩
      ·
        replace F := ite_n hp2 F
        have hq2 := dec_f hp2
        refine CW.condF rfl hq2 ?_
        refine CW.exit (jK59 _ _ ⟨_, ?_, ⟨F, rfl, H⟩⟩)
        exact ⟨rfl, trivial⟩
  ·
    replace F := ite_n hp1 F
    have hq1 := dec_f hp1
    refine CW.condT rfl (not_t hq1) ?_
    refine CW.seq fun K12 hK12 => ?_
    refine CW.region ?_
    refine LW.pure rfl rfl (RV.assign rfl) ?_
    refine LW.nil (hK12 _ _ ?_)
    refine CW.ret ?_
    obtain rfl := Option.some.inj F
    refine ⟨_, (ResOK.one rfl), ?_⟩
    refine ⟨(by first | rfl | simp), R0⟩

set_option maxRecDepth 20000 in
set_option maxHeartbeats 1000000 in
theorem ref03_CheckDates_ok {a0 : Core} {a1 : List Int} {A_a0_bounds : Option Addr} {c_a0_bounds : Nat} {A_a1 : Option Addr} {c_a1 : Nat} {w : World} {res : Int} (h_a0_bounds : Sl w A_a0_bounds c_a0_bounds 3 (a0.bounds.map encBound)) (h_a1 : Sl w A_a1 c_a1 1 (a1.map encN)) (F : ref03_CheckDates a0 a1 = some res) : Calls Try.prog 38 #[.agg #[.int .i64 a0.layers, .slice A_a0_bounds a0.bounds.length c_a0_bounds], .slice A_a1 a1.length c_a1] w (Rt w (.int .i64 res)) := by
  refine calls_of_cw (args := [.agg #[.int .i64 a0.layers, .slice A_a0_bounds a0.bounds.length c_a0_bounds], .slice A_a1 a1.length c_a1]) Try.func38 rfl rfl rfl rfl ?_
  have H := Hp.start w
  have R0 := H.ext
  unfold ref03_CheckDates at F
  refine CW.seq fun K1 hK1 => ?_
  refine CW.region ?_
  refine LW.go rfl rfl (OW.box rfl fun b1 w1 N1 => ?_)
  replace H := H.new N1 N1.blk
  replace R0 := H.ext
  refine LW.pure rfl rfl (RV.assign rfl) ?_
  refine LW.nil (hK1 _ _ ?_)
  refine CW.seq fun K2 hK2 => ?_
  refine CW.seq fun K3 hK3 => ?_
  obtain ⟨r1, hr1, F⟩ := bnd_some F
  refine CW.region ?_
  refine LW.pure rfl rfl (RV.loadA [.int .i64 a0.layers, .slice A_a0_bounds a0.bounds.length c_a0_bounds] Tk24 rfl (H.blk 0 rfl).cells rfl rfl) ?_
  refine LW.go rfl rfl (OW.call Tc37 rfl (ref03_Validate_ok (a0 := a0) (h_a0_bounds.ext R0) hr1) ?_)
  rintro _ w2 ⟨rfl, E1⟩
  refine ⟨_, rfl, ?_⟩
  replace H := H.grow E1
  replace R0 := H.ext
  refine LW.pure rfl rfl (RV.assign rfl) ?_
  refine LW.nil (hK3 _ _ ?_)
  refine CW.seq fun K4 hK4 => ?_
  refine CW.region ?_
  refine LW.pure rfl rfl (RV.move rfl) ?_
  refine LW.pure rfl rfl (RV.nei rfl rfl) ?_
  refine LW.nil (hK4 _ _ ?_)
  by_cases hp1 : r1 = 0
  ·
    replace F := ite_y hp1 F
    have hq1 := dec_t hp1
    refine CW.condF rfl (not_f hq1) ?_
    refine CW.skip (hK2 _ _ ?_)
    refine CW.seq fun K5 hK5 => ?_
    refine CW.seq fun K6 hK6 => ?_
    obtain ⟨r2, hr2, F⟩ := bnd_some F
    refine CW.region ?_
    refine LW.pure rfl rfl (RV.loadA [.int .i64 a0.layers, .slice A_a0_bounds a0.bounds.length c_a0_bounds] Tk24 rfl (H.blk 0 rfl).cells rfl rfl) ?_
    refine LW.pure rfl rfl (RV.move rfl) ?_
    refine LW.go rfl rfl (OW.call Tc71 rfl (ref03_isDates_ok (a0 := a0) (a1 := a1) (h_a0_bounds.ext R0) (h_a1.ext R0) hr2) ?_)
    rintro _ w3 ⟨rfl, E2⟩
    refine ⟨_, rfl, ?_⟩
    replace H := H.grow E2
    replace R0 := H.ext
    refine LW.pure rfl rfl (RV.not rfl) ?_
    refine LW.nil (hK6 _ _ ?_)
    by_cases hp2 : r2 = true
    ·
      replace F := ite_y hp2 F
      have hq2 : r2 = true := hp2
      refine CW.condF rfl (not_f hq2) ?_
      refine CW.skip (hK5 _ _ ?_)
      refine CW.seqJ (fun ρ wl1 => (ref03_CheckDates_k1 = some res ∧ ρ = [(4, .int .i64 0)] ∧ Hp w wl1 [])) ?_ ?_
      ·
        rintro _ wl1 ⟨F, rfl, H⟩
        have R0 := H.ext
        unfold ref03_CheckDates_k1 at F
        refine CW.seq fun K7 hK7 => ?_
        refine CW.region ?_
        refine LW.pure rfl rfl (RV.assign rfl) ?_
        refine LW.nil (hK7 _ _ ?_)
        refine CW.ret ?_
        obtain rfl := Option.some.inj F
        refine ⟨_, (ResOK.one rfl), ?_⟩
        refine ⟨(by first | rfl | simp), R0⟩
      ·
        intro K8 hK8 jK75
        refine CW.seq fun K9 hK9 => ?_
        refine CW.region ?_
        refine LW.pure rfl rfl (RV.assign rfl) ?_
        refine LW.nil (hK9 _ _ ?_)
        refine CW.block ?_
        refine CW.loop (fun meas ρ wl2 => ∃ (t6_1 : Int), ref03_CheckDates_L1 a0 a1 meas t6_1 = some res ∧ ρ = [(1, .slice A_a1 a1.length c_a1), (2, .pointer (some (⟨b1, 0, none⟩))), (4, .int .i64 0), (6, .int .i64 t6_1)] ∧ Hp w wl2 [.blk b1 24 [.int .i64 a0.layers, .slice A_a0_bounds a0.bounds.length c_a0_bounds]]) FU ⟨_, ?_, ((0 : Int)), F, rfl, H⟩ ?_
        · exact ⟨rfl, rfl, rfl, rfl, trivial⟩
        rintro mk1 _ wl2 ⟨t6_1, F, rfl, H⟩
        have R0 := H.ext
        replace F := ref03_CheckDates_L1_s F
        obtain ⟨mk1, rfl, F⟩ := F
        generalize hrec1 : ref03_CheckDates_L1 a0 a1 mk1 = rec1 at F
        unfold ref03_CheckDates_B1 at F
        refine CW.seq fun K10 hK10 => ?_
        refine CW.seq fun K11 hK11 => ?_
        refine CW.region ?_
        refine LW.pure rfl rfl (RV.move rfl) ?_
        refine LW.pure rfl rfl (RV.fieldAddr Tf24_1 rfl) ?_
        refine LW.pure rfl rfl (RV.load1 Tk22 rfl ((H.blk 0 rfl).cells.off 1) rfl) ?_
        refine LW.pure rfl rfl (RV.len Ts22 rfl) ?_
        refine LW.pure rfl rfl (RV.lss rfl rfl) ?_
        refine LW.nil (hK11 _ _ ?_)
        by_cases hp3 : t6_1 < ((a0.bounds.length : Int))
        ·
          replace F := ite_y hp3 F
          have hq3 := dec_t hp3
          refine CW.condT rfl hq3 ?_
          refine CW.skip (hK10 _ _ ?_)
          refine CW.seq fun K12 hK12 => ?_
          refine CW.block ?_
          refine CW.seq fun K13 hK13 => ?_
          obtain ⟨x1, hbx1, hx1, F⟩ := ix_some F
          refine CW.region ?_
          refine LW.pure rfl rfl (RV.fieldAddr Tf24_1 rfl) ?_
          refine LW.pure rfl rfl (RV.load1 Tk22 rfl ((H.blk 0 rfl).cells.off 1) rfl) ?_
          refine LW.pure rfl rfl (RV.move rfl) ?_
          refine LW.pure rfl rfl (RV.indexAddr Ts22 rfl rfl hbx1 (h_a0_bounds.addr_ hx1)) ?_
          refine LW.pure rfl rfl (RV.loadA [.int .i64 x1.a, .int .i64 x1.b, .int .i64 x1.most] Tk26 rfl ((h_a0_bounds.at_ hx1).ext R0) rfl rfl) ?_
          refine LW.go rfl rfl (OW.alloc Tz26 fun b2 w4 N2 => ?_)
          replace H := H.new N2 N2.blk
          replace R0 := H.ext
          refine LW.go rfl rfl (OW.store Tk26 rfl rfl (H.blk 0 rfl) (off := 0) (vs := [.int .i64 x1.a, .int .i64 x1.b, .int .i64 x1.most]) rfl rfl rfl rfl rfl fun w5 S1 => ?_)
          replace H : Hp w w5 [.blk b2 26 [.int .i64 x1.a, .int .i64 x1.b, .int .i64 x1.most], .blk b1 24 [.int .i64 a0.layers, .slice A_a0_bounds a0.bounds.length c_a0_bounds]] := H.stored 0 rfl S1
          replace R0 := H.ext
          refine LW.nil (hK13 _ _ ?_)
          refine CW.seq fun K14 hK14 => ?_
          obtain ⟨x2, hbx2, hx2, F⟩ := ix_some F
          obtain ⟨x3, hbx3, hx3, F⟩ := ix_some F
          obtain ⟨hg1, F⟩ := gd_some F
          refine CW.draw [] (fun _ => True) (.cons 0 1 (.cons 1 1 (.cons 2 1 (.cons 3 1 (.cons 4 1 (.cons 5 1 (.cons 6 1 (.cons 7 1 (.cons 8 1 (.cons 9 1 (.cons 10 1 (.cons 11 1 (.cons 12 1 (.cons 13 1 .nil)))))))))))))) mixed (by kernel_rfl) fun w6 E3 => ?_
          replace H := H.grow E3
          replace R0 := H.ext
          refine DW.fix rfl rfl rfl (fun _ EQ => RV.move rfl) ?_
          refine DW.fix rfl rfl rfl (fun _ EQ => RV.fieldAddr Tf26_1 rfl) ?_
          refine DW.fix rfl rfl rfl (fun _ EQ => RV.load1 Tk3 rfl (((H.grow EQ).blk 0 rfl).cells.off 1) rfl) ?_
          refine DW.fix rfl rfl rfl (fun _ EQ => RV.indexAddr Ts43 rfl rfl hbx2 (h_a1.addr_ hx2)) ?_
          refine DW.fix rfl rfl rfl (fun _ EQ => RV.load1 Tk3 rfl ((h_a1.at_ hx2).ext (R0.trans EQ)) rfl) ?_
          refine DW.fix rfl rfl rfl (fun _ EQ => RV.move rfl) ?_
          refine DW.fix rfl rfl rfl (fun _ EQ => RV.fieldAddr Tf26_0 rfl) ?_
          refine DW.fix rfl rfl rfl (fun _ EQ => RV.load1 Tk3 rfl (((H.grow EQ).blk 0 rfl).cells.off 0) rfl) ?_
          refine DW.fix rfl rfl rfl (fun _ EQ => RV.indexAddr Ts43 rfl rfl hbx3 (h_a1.addr_ hx3)) ?_
          refine DW.fix rfl rfl rfl (fun _ EQ => RV.load1 Tk3 rfl ((h_a1.at_ hx3).ext (R0.trans EQ)) rfl) ?_
          refine DW.fix rfl rfl rfl (fun _ EQ => RV.sub rfl rfl hg1) ?_
          refine DW.fix rfl rfl rfl (fun _ EQ => RV.fieldAddr Tf26_2 rfl) ?_
          refine DW.fix rfl rfl rfl (fun _ EQ => RV.load1 Tk3 rfl (((H.grow EQ).blk 0 rfl).cells.off 2) rfl) ?_
          refine DW.fix rfl rfl rfl (fun _ EQ => RV.gtr rfl rfl) ?_
          refine DW.nil (hK14 _ _ ?_)
          by_cases hp4 : x1.most < (x2 - x3)
          ·
            replace F := ite_y hp4 F
            have hq4 := dec_t hp4
            refine CW.condT rfl hq4 ?_
            refine CW.seq fun K15 hK15 => ?_
            refine CW.region ?_
            refine LW.pure rfl rfl (RV.assign rfl) ?_
            refine LW.nil (hK15 _ _ ?_)
            refine CW.ret ?_
            obtain rfl := Option.some.inj F
            refine ⟨_, (ResOK.one rfl), ?_⟩
            refine ⟨(by first | rfl | simp), R0⟩
          ·
            replace F := ite_n hp4 F
            have hq4 := dec_f hp4
            refine CW.condF rfl hq4 ?_
            refine CW.skip (hK12 _ _ ?_)
            obtain ⟨hg2, F⟩ := gd_some F
            refine CW.region ?_
            refine LW.pure rfl rfl (RV.move rfl) ?_
            refine LW.pure rfl rfl (RV.add rfl rfl hg2) ?_
            refine LW.pure rfl rfl (RV.assign rfl) ?_
            refine LW.nil ?_
            replace H := H.pick (L' := [.blk b1 24 [.int .i64 a0.layers, .slice A_a0_bounds a0.bounds.length c_a0_bounds]]) [1] (by decide) rfl
            replace R0 := H.ext
            subst hrec1
            refine ⟨mk1, Nat.lt_succ_self _, _, ?_, (t6_1 + 1), F, rfl, H⟩
            exact ⟨rfl, rfl, rfl, rfl, trivial⟩
        ·
          replace F := ite_n hp3 F
          have hq3 := dec_f hp3
          refine CW.condF rfl hq3 ?_
          replace H := H.pick (L' := []) [] (by decide) rfl
          replace R0 := H.ext
          refine CW.exit (jK75 _ _ ⟨_, ?_, ⟨F, rfl, H⟩⟩)
          exact ⟨rfl, trivial⟩
    ·
      replace F := ite_n hp2 F
      have hq2 : r2 = false := raw_f hp2
      refine CW.condT rfl (not_t hq2) ?_
      refine CW.seq fun K16 hK16 => ?_
      refine CW.region ?_
      refine LW.pure rfl rfl (RV.assign rfl) ?_
      refine LW.nil (hK16 _ _ ?_)
      refine CW.ret ?_
      obtain rfl := Option.some.inj F
      refine ⟨_, (ResOK.one rfl), ?_⟩
      refine ⟨(by first | rfl | simp), R0⟩
  ·
    replace F := ite_n hp1 F
    have hq1 := dec_f hp1
    refine CW.condT rfl (not_t hq1) ?_
    refine CW.seq fun K17 hK17 => ?_
    refine CW.region ?_
    refine LW.pure rfl rfl (RV.move rfl) ?_
    refine LW.pure rfl rfl (RV.assign rfl) ?_
    refine LW.nil (hK17 _ _ ?_)
    refine CW.ret ?_
    obtain rfl := Option.some.inj F
    refine ⟨_, (ResOK.one rfl), ?_⟩
    refine ⟨(by first | rfl | simp), R0⟩

end Go.D3

set_option linter.unusedVariables false
namespace Go.D3
open Go.Tb Go.Core




def core_Dates (a0 : Core) : Option ((List Int) × Bool × Int) :=
  bnd (core_Validate a0) fun r1 =>
  if r1 = 0 then
    bnd (core_relax a0) fun r2 =>
    if (0 : Int) ≤ r2.2.2 then
      some (([] : List Int), false, (0 : Int))
    else
      some (r2.1, true, (0 : Int))
  else
    some (([] : List Int), false, r1)
def law03_CoreDates_k1 (a0 : Core) (r1 : (List Int) × Bool × Int) (t67_1 : Bool) : Option Bool :=
  if t67_1 = true then
    some false
  else
    if r1.2.1 = true then
      bnd (ref03_CheckDates a0 r1.1) fun r2 =>
      if r2 = 0 then
        bnd (law03_known) fun r3 =>
        some r3
      else
        some false
    else
      if ((r1.1.length : Int)) = 0 then
        bnd (law03_known) fun r4 =>
        some r4
      else
        some false
def law03_CoreDates_k2 (a0 : Core) (r5 : Bool × Int) (t53_1 : Bool) : Option Bool :=
  if t53_1 = true then
    some false
  else
    bnd (core_Dates a0) fun r1 =>
    if r1.2.2 = r5.2 then
      law03_CoreDates_k1 a0 r1 ((!(r1.2.1 == r5.1)))
    else
      law03_CoreDates_k1 a0 r1 true
def law03_CoreDates_k3 (a0 : Core) (a1 : List Int) (t18_1 : Bool) : Option Bool :=
  if t18_1 = true then
    bnd (law03_known) fun r6 =>
    some r6
  else
    bnd (core_IsPossible a0) fun r7 =>
    bnd (ref03_IsPossible a0) fun r5 =>
    bnd (core_Validate a0) fun r8 =>
    bnd (ref03_Validate a0) fun r9 =>
    if r8 = r9 then
      if (r7.1 == r5.1) = true then
        if r7.2 = r5.2 then
          bnd (core_CheckDates a0 a1) fun r10 =>
          bnd (ref03_CheckDates a0 a1) fun r11 =>
          law03_CoreDates_k2 a0 r5 ((!(decide (r10 = r11))))
        else
          law03_CoreDates_k2 a0 r5 true
      else
        law03_CoreDates_k2 a0 r5 true
    else
      law03_CoreDates_k2 a0 r5 true
def law03_CoreDates (a0 : Core) (a1 : List Int) : Option Bool :=
  bnd (law03_Long a0) fun r12 =>
  if r12 = true then
    law03_CoreDates_k3 a0 a1 true
  else
    law03_CoreDates_k3 a0 a1 ((decide ((100 : Int) < ((a1.length : Int)))))
def core_CheckClash_k1 (t8_1 : Int) : Option Int :=
  if (0 : Int) ≤ t8_1 then
    some ((7 : Int))
  else
    some ((0 : Int))
def core_CheckClash_B1 (a0 : Core) (a1 : List Int) (rec1 : Int → Int → Option Int) (t8_2 : Int) (t36_1 : Int) : Option Int :=
  if t36_1 < ((a1.length : Int)) then
    ix a1 t36_1 fun x1 =>
    gd (InR (t36_1 + 1)) <|
    gd ((a1.length : Int) ≠ 0 ∧ InR (Int.tmod (t36_1 + 1) ((a1.length : Int)))) <|
    ix a1 (Int.tmod (t36_1 + 1) ((a1.length : Int))) fun x2 =>
    ix a0.bounds x2 fun x3 =>
    ix a0.bounds x1 fun x4 =>
    if x4.b = x3.a then
      ix a0.bounds x1 fun x5 =>
      gd (InR (t8_2 + x5.most)) <|
      gd (InR (t36_1 + 1)) <|
      rec1 ((t8_2 + x5.most)) ((t36_1 + 1))
    else
      some ((7 : Int))
  else
    core_CheckClash_k1 t8_2
def core_CheckClash_L1 (a0 : Core) (a1 : List Int) : Nat → Int → Int → Option Int
  | 0, _, _ => none
  | n_ + 1, t8_2, t36_1 => core_CheckClash_B1 a0 a1 (core_CheckClash_L1 a0 a1 n_) t8_2 t36_1
theorem core_CheckClash_L1_s {a0 : Core} {a1 : List Int} {m_ : Nat} {t8_2 : Int} {t36_1 : Int} {res : Int} (h : core_CheckClash_L1 a0 a1 m_ t8_2 t36_1 = some res) : ∃ k, m_ = k + 1 ∧ core_CheckClash_B1 a0 a1 (core_CheckClash_L1 a0 a1 k) t8_2 t36_1 = some res := by
  cases m_ with
  | zero => cases h
  | succ k => exact ⟨k, rfl, h⟩
def core_CheckClash_k2 (a0 : Core) (a1 : List Int) : Option Int :=
  core_CheckClash_L1 a0 a1 FU (((0 : Int))) (((0 : Int)))
def core_CheckClash_B2 (a0 : Core) (a1 : List Int) (rec2 : Int → Option Int) (t22_1 : Int) : Option Int :=
  if t22_1 < ((a1.length : Int)) then
    ix a1 t22_1 fun x6 =>
    gd (InR (((a0.bounds.length : Int)) - 1)) <|
    bnd (core_within x6 ((0 : Int)) (((a0.bounds.length : Int)) - 1)) fun r1 =>
    if r1 = true then
      gd (InR (t22_1 + 1)) <|
      rec2 ((t22_1 + 1))
    else
      some ((4 : Int))
  else
    core_CheckClash_k2 a0 a1
def core_CheckClash_L2 (a0 : Core) (a1 : List Int) : Nat → Int → Option Int
  | 0, _ => none
  | n_ + 1, t22_1 => core_CheckClash_B2 a0 a1 (core_CheckClash_L2 a0 a1 n_) t22_1
theorem core_CheckClash_L2_s {a0 : Core} {a1 : List Int} {m_ : Nat} {t22_1 : Int} {res : Int} (h : core_CheckClash_L2 a0 a1 m_ t22_1 = some res) : ∃ k, m_ = k + 1 ∧ core_CheckClash_B2 a0 a1 (core_CheckClash_L2 a0 a1 k) t22_1 = some res := by
  cases m_ with
  | zero => cases h
  | succ k => exact ⟨k, rfl, h⟩
def core_CheckClash (a0 : Core) (a1 : List Int) : Option Int :=
  bnd (core_Validate a0) fun r2 =>
  if r2 = 0 then
    if (20 : Int) < ((a1.length : Int)) then
      some ((3 : Int))
    else
      core_CheckClash_L2 a0 a1 FU (((0 : Int)))
  else
    some r2
end Go.D3

set_option linter.unusedVariables false
set_option linter.unusedSimpArgs false
namespace Go.D3
open Go.Tb Go.Proofs Go.RowKit Go.Core

theorem Tb4 : Try.prog.underlying 4 = some .bool := by kernel_rfl
theorem Tc17 : callable Try.prog 17 = true := by kernel_rfl
theorem Tc18 : callable Try.prog 18 = true := by kernel_rfl
theorem Tc33 : callable Try.prog 33 = true := by kernel_rfl
theorem Tc34 : callable Try.prog 34 = true := by kernel_rfl
theorem Tc35 : callable Try.prog 35 = true := by kernel_rfl
theorem Tc38 : callable Try.prog 38 = true := by kernel_rfl
theorem Tc39 : callable Try.prog 39 = true := by kernel_rfl

set_option maxRecDepth 20000 in
set_option maxHeartbeats 1000000 in
theorem core_Dates_ok {a0 : Core} {A_a0_bounds : Option Addr} {c_a0_bounds : Nat} {w : World} {res : (List Int) × Bool × Int} (h_a0_bounds : Sl w A_a0_bounds c_a0_bounds 3 (a0.bounds.map encBound)) (F : core_Dates a0 = some res) : Calls Try.prog 39 #[.agg #[.int .i64 a0.layers, .slice A_a0_bounds a0.bounds.length c_a0_bounds]] w (fun e w' => ∃ (A0 : Option Addr) (c0 : Nat), e = .returned (.tuple #[.slice A0 res.1.length c0, .bool res.2.1, .int .i64 res.2.2]) ∧ Hp w w' [.own A0 c0 3 1 (List.map encN res.1)]) := by
  refine calls_of_cw (args := [.agg #[.int .i64 a0.layers, .slice A_a0_bounds a0.bounds.length c_a0_bounds]]) Try.func39 rfl rfl rfl rfl ?_
  have H := Hp.start w
  have R0 := H.ext
  unfold core_Dates at F
  refine CW.seq fun K1 hK1 => ?_
  refine CW.region ?_
  refine LW.go rfl rfl (OW.box rfl fun b1 w1 N1 => ?_)
  replace H := H.new N1 N1.blk
  replace R0 := H.ext
  refine LW.pure rfl rfl (RV.assign rfl) ?_
  refine LW.pure rfl rfl (RV.assign rfl) ?_
  refine LW.pure rfl rfl (RV.assign rfl) ?_
  refine LW.nil (hK1 _ _ ?_)
  refine CW.seq fun K2 hK2 => ?_
  refine CW.seq fun K3 hK3 => ?_
  obtain ⟨r1, hr1, F⟩ := bnd_some F
  refine CW.region ?_
  refine LW.pure rfl rfl (RV.loadA [.int .i64 a0.layers, .slice A_a0_bounds a0.bounds.length c_a0_bounds] Tk24 rfl (H.blk 0 rfl).cells rfl rfl) ?_
  refine LW.go rfl rfl (OW.call Tc36 rfl (core_Validate_ok (a0 := a0) (h_a0_bounds.ext R0) hr1) ?_)
  rintro _ w2 ⟨rfl, E1⟩
  refine ⟨_, rfl, ?_⟩
  replace H := H.grow E1
  replace R0 := H.ext
  refine LW.pure rfl rfl (RV.assign rfl) ?_
  refine LW.nil (hK3 _ _ ?_)
  refine CW.seq fun K4 hK4 => ?_
  refine CW.region ?_
  refine LW.pure rfl rfl (RV.move rfl) ?_
  refine LW.pure rfl rfl (RV.nei rfl rfl) ?_
  refine LW.nil (hK4 _ _ ?_)
  by_cases hp1 : r1 = 0
  ·
    replace F := ite_y hp1 F
    have hq1 := dec_t hp1
    refine CW.condF rfl (not_f hq1) ?_
    refine CW.skip (hK2 _ _ ?_)
    refine CW.seq fun K5 hK5 => ?_
    obtain ⟨r2, hr2, F⟩ := bnd_some F
    refine CW.region ?_
    refine LW.pure rfl rfl (RV.loadA [.int .i64 a0.layers, .slice A_a0_bounds a0.bounds.length c_a0_bounds] Tk24 rfl (H.blk 0 rfl).cells rfl rfl) ?_
    refine LW.go rfl rfl (OW.call Tc72 rfl (core_relax_ok (a0 := a0) (h_a0_bounds.ext R0) hr2) ?_)
    rintro _ w3 ⟨A6_0, c6_0, A6_1, c6_1, rfl, E2⟩
    refine ⟨_, rfl, ?_⟩
    replace H : Hp w w3 [.own A6_0 c6_0 3 1 (List.map encN r2.1), .own A6_1 c6_1 3 1 (List.map encN r2.2.1), .blk b1 24 [.int .i64 a0.layers, .slice A_a0_bounds a0.bounds.length c_a0_bounds]] := H.append E2
    replace R0 := H.ext
    refine LW.pure rfl rfl (RV.move rfl) ?_
    refine LW.pure rfl rfl (RV.extract rfl rfl) ?_
    refine LW.pure rfl rfl (RV.extract rfl rfl) ?_
    refine LW.pure rfl rfl (RV.extract rfl rfl) ?_
    refine LW.pure rfl rfl (RV.assign rfl) ?_
    refine LW.pure rfl rfl (RV.assign rfl) ?_
    refine LW.pure rfl rfl (RV.assign rfl) ?_
    refine LW.nil (hK5 _ _ ?_)
    refine CW.seq fun K6 hK6 => ?_
    refine CW.seq fun K7 hK7 => ?_
    refine CW.region ?_
    refine LW.pure rfl rfl (RV.move rfl) ?_
    refine LW.pure rfl rfl (RV.geq rfl rfl) ?_
    refine LW.nil (hK7 _ _ ?_)
    by_cases hp2 : (0 : Int) ≤ r2.2.2
    ·
      replace F := ite_y hp2 F
      have hq2 := dec_t hp2
      refine CW.condT rfl hq2 ?_
      refine CW.seq fun K8 hK8 => ?_
      refine CW.region ?_
      refine LW.pure rfl rfl (RV.assign rfl) ?_
      refine LW.pure rfl rfl (RV.assign rfl) ?_
      refine LW.pure rfl rfl (RV.assign rfl) ?_
      refine LW.nil (hK8 _ _ ?_)
      refine CW.ret ?_
      obtain rfl := Option.some.inj F
      refine ⟨_, (ResOK.three rfl rfl rfl), ?_⟩
      replace H := H.nilOwn 3 1
      replace R0 := H.ext
      replace H := H.pick (L' := [.own none 0 3 1 (List.map encN (([] : List Int)))]) [0] (by decide) rfl
      replace R0 := H.ext
      exact ⟨none, 0, (by first | rfl | (simp; done) | (simp; omega)), H⟩
    ·
      replace F := ite_n hp2 F
      have hq2 := dec_f hp2
      refine CW.condF rfl hq2 ?_
      refine CW.skip (hK6 _ _ ?_)
      refine CW.seq fun K9 hK9 => ?_
      refine CW.region ?_
      refine LW.pure rfl rfl (RV.move rfl) ?_
      refine LW.pure rfl rfl (RV.assign rfl) ?_
      refine LW.pure rfl rfl (RV.assign rfl) ?_
      refine LW.pure rfl rfl (RV.assign rfl) ?_
      refine LW.nil (hK9 _ _ ?_)
      refine CW.ret ?_
      obtain rfl := Option.some.inj F
      refine ⟨_, (ResOK.three rfl rfl rfl), ?_⟩
      replace H := H.pick (L' := [.own A6_0 c6_0 3 1 (List.map encN r2.1)]) [0] (by decide) rfl
      replace R0 := H.ext
      exact ⟨A6_0, c6_0, (by first | rfl | (simp; done) | (simp; omega)), H⟩
  ·
    replace F := ite_n hp1 F
    have hq1 := dec_f hp1
    refine CW.condT rfl (not_t hq1) ?_
    refine CW.seq fun K10 hK10 => ?_
    refine CW.region ?_
    refine LW.pure rfl rfl (RV.move rfl) ?_
    refine LW.pure rfl rfl (RV.assign rfl) ?_
    refine LW.pure rfl rfl (RV.assign rfl) ?_
    refine LW.pure rfl rfl (RV.assign rfl) ?_
    refine LW.nil (hK10 _ _ ?_)
    refine CW.ret ?_
    obtain rfl := Option.some.inj F
    refine ⟨_, (ResOK.three rfl rfl rfl), ?_⟩
    replace H := H.nilOwn 3 1
    replace R0 := H.ext
    replace H := H.pick (L' := [.own none 0 3 1 (List.map encN (([] : List Int)))]) [0] (by decide) rfl
    replace R0 := H.ext
    exact ⟨none, 0, (by first | rfl | (simp; done) | (simp; omega)), H⟩

set_option maxRecDepth 20000 in
set_option maxHeartbeats 1000000 in
theorem law03_CoreDates_ok {a0 : Core} {a1 : List Int} {A_a0_bounds : Option Addr} {c_a0_bounds : Nat} {A_a1 : Option Addr} {c_a1 : Nat} {w : World} {res : Bool} (h_a0_bounds : Sl w A_a0_bounds c_a0_bounds 3 (a0.bounds.map encBound)) (h_a1 : Sl w A_a1 c_a1 1 (a1.map encN)) (F : law03_CoreDates a0 a1 = some res) : Calls Try.prog 8 #[.agg #[.int .i64 a0.layers, .slice A_a0_bounds a0.bounds.length c_a0_bounds], .slice A_a1 a1.length c_a1] w (Rt w (.bool res)) := by
  refine calls_of_cw (args := [.agg #[.int .i64 a0.layers, .slice A_a0_bounds a0.bounds.length c_a0_bounds], .slice A_a1 a1.length c_a1]) Try.func8 rfl rfl rfl rfl ?_
  have H := Hp.start w
  have R0 := H.ext
  unfold law03_CoreDates at F
  refine CW.seq fun K1 hK1 => ?_
  refine CW.region ?_
  refine LW.go rfl rfl (OW.box rfl fun b1 w1 N1 => ?_)
  replace H := H.new N1 N1.blk
  replace R0 := H.ext
  refine LW.pure rfl rfl (RV.assign rfl) ?_
  refine LW.nil (hK1 _ _ ?_)
  refine CW.seq fun K2 hK2 => ?_
  refine CW.seqJ (fun ρ wl1 => (∃ (t18_1 : Bool), law03_CoreDates_k3 a0 a1 t18_1 = some res ∧ ρ = [(1, .slice A_a1 a1.length c_a1), (2, .pointer (some (⟨b1, 0, none⟩))), (4, .bool false), (18, .bool t18_1)] ∧ Hp w wl1 [.blk b1 24 [.int .i64 a0.layers, .slice A_a0_bounds a0.bounds.length c_a0_bounds]])) ?_ ?_
  ·
    rintro _ wl1 ⟨t18_1, F, rfl, H⟩
    have R0 := H.ext
    unfold law03_CoreDates_k3 at F
    by_cases hp1 : t18_1 = true
    ·
      replace F := ite_y hp1 F
      have hq1 : t18_1 = true := hp1
      refine CW.condT rfl hq1 ?_
      refine CW.seq fun K3 hK3 => ?_
      obtain ⟨r6, hr6, F⟩ := bnd_some F
      refine CW.region ?_
      refine LW.go rfl rfl (OW.call Tc18 rfl (law03_known_ok hr6) ?_)
      rintro _ w2 ⟨rfl, E1⟩
      refine ⟨_, rfl, ?_⟩
      replace H := H.grow E1
      replace R0 := H.ext
      refine LW.pure rfl rfl (RV.assign rfl) ?_
      refine LW.nil (hK3 _ _ ?_)
      refine CW.ret ?_
      obtain rfl := Option.some.inj F
      refine ⟨_, (ResOK.one rfl), ?_⟩
      refine ⟨(by first | rfl | simp), R0⟩
    ·
      replace F := ite_n hp1 F
      have hq1 : t18_1 = false := raw_f hp1
      refine CW.condF rfl hq1 ?_
      refine CW.skip (hK2 _ _ ?_)
      refine CW.seq fun K4 hK4 => ?_
      obtain ⟨r7, hr7, F⟩ := bnd_some F
      refine CW.region ?_
      refine LW.pure rfl rfl (RV.loadA [.int .i64 a0.layers, .slice A_a0_bounds a0.bounds.length c_a0_bounds] Tk24 rfl (H.blk 0 rfl).cells rfl rfl) ?_
      refine LW.go rfl rfl (OW.call Tc34 rfl (core_IsPossible_ok (a0 := a0) (h_a0_bounds.ext R0) hr7) ?_)
      rintro _ w3 ⟨rfl, E2⟩
      refine ⟨_, rfl, ?_⟩
      replace H := H.grow E2
      replace R0 := H.ext
      refine LW.pure rfl rfl (RV.move rfl) ?_
      refine LW.pure rfl rfl (RV.extract rfl rfl) ?_
      refine LW.pure rfl rfl (RV.extract rfl rfl) ?_
      refine LW.pure rfl rfl (RV.assign rfl) ?_
      refine LW.pure rfl rfl (RV.assign rfl) ?_
      refine LW.nil (hK4 _ _ ?_)
      refine CW.seq fun K5 hK5 => ?_
      obtain ⟨r5, hr5, F⟩ := bnd_some F
      refine CW.region ?_
      refine LW.pure rfl rfl (RV.loadA [.int .i64 a0.layers, .slice A_a0_bounds a0.bounds.length c_a0_bounds] Tk24 rfl (H.blk 0 rfl).cells rfl rfl) ?_
      refine LW.go rfl rfl (OW.call Tc35 rfl (ref03_IsPossible_ok (a0 := a0) (h_a0_bounds.ext R0) hr5) ?_)
      rintro _ w4 ⟨rfl, E3⟩
      refine ⟨_, rfl, ?_⟩
      replace H := H.grow E3
      replace R0 := H.ext
      refine LW.pure rfl rfl (RV.move rfl) ?_
      refine LW.pure rfl rfl (RV.extract rfl rfl) ?_
      refine LW.pure rfl rfl (RV.extract rfl rfl) ?_
      refine LW.pure rfl rfl (RV.assign rfl) ?_
      refine LW.pure rfl rfl (RV.assign rfl) ?_
      refine LW.nil (hK5 _ _ ?_)
      refine CW.seq fun K6 hK6 => ?_
      refine CW.seqJ (fun ρ wl2 => (∃ (t53_1 : Bool), law03_CoreDates_k2 a0 r5 t53_1 = some res ∧ ρ = [(2, .pointer (some (⟨b1, 0, none⟩))), (4, .bool false), (7, .bool r5.1), (8, .int .i64 r5.2), (53, .bool t53_1)] ∧ Hp w wl2 [.blk b1 24 [.int .i64 a0.layers, .slice A_a0_bounds a0.bounds.length c_a0_bounds]])) ?_ ?_
      ·
        rintro _ wl2 ⟨t53_1, F, rfl, H⟩
        have R0 := H.ext
        unfold law03_CoreDates_k2 at F
        by_cases hp2 : t53_1 = true
        ·
          replace F := ite_y hp2 F
          have hq2 : t53_1 = true := hp2
          refine CW.condT rfl hq2 ?_
          refine CW.seq fun K7 hK7 => ?_
          refine CW.region ?_
          refine LW.pure rfl rfl (RV.assign rfl) ?_
          refine LW.nil (hK7 _ _ ?_)
          refine CW.ret ?_
          obtain rfl := Option.some.inj F
          refine ⟨_, (ResOK.one rfl), ?_⟩
          refine ⟨(by first | rfl | simp), R0⟩
        ·
          replace F := ite_n hp2 F
          have hq2 : t53_1 = false := raw_f hp2
          refine CW.condF rfl hq2 ?_
          refine CW.skip (hK6 _ _ ?_)
          refine CW.seq fun K8 hK8 => ?_
          obtain ⟨r1, hr1, F⟩ := bnd_some F
          refine CW.region ?_
          refine LW.pure rfl rfl (RV.loadA [.int .i64 a0.layers, .slice A_a0_bounds a0.bounds.length c_a0_bounds] Tk24 rfl (H.blk 0 rfl).cells rfl rfl) ?_
          refine LW.go rfl rfl (OW.call Tc39 rfl (core_Dates_ok (a0 := a0) (h_a0_bounds.ext R0) hr1) ?_)
          rintro _ w5 ⟨A30_0, c30_0, rfl, E4⟩
          refine ⟨_, rfl, ?_⟩
          replace H : Hp w w5 [.own A30_0 c30_0 3 1 (List.map encN r1.1), .blk b1 24 [.int .i64 a0.layers, .slice A_a0_bounds a0.bounds.length c_a0_bounds]] := H.append E4
          replace R0 := H.ext
          refine LW.pure rfl rfl (RV.move rfl) ?_
          refine LW.pure rfl rfl (RV.extract rfl rfl) ?_
          refine LW.pure rfl rfl (RV.extract rfl rfl) ?_
          refine LW.pure rfl rfl (RV.extract rfl rfl) ?_
          refine LW.pure rfl rfl (RV.assign rfl) ?_
          refine LW.pure rfl rfl (RV.assign rfl) ?_
          refine LW.pure rfl rfl (RV.assign rfl) ?_
          refine LW.nil (hK8 _ _ ?_)
          refine CW.seq fun K9 hK9 => ?_
          refine CW.seqJ (fun ρ wl3 => (∃ (t67_1 : Bool), law03_CoreDates_k1 a0 r1 t67_1 = some res ∧ ρ = [(2, .pointer (some (⟨b1, 0, none⟩))), (4, .bool false), (9, .slice A30_0 r1.1.length c30_0), (10, .bool r1.2.1), (67, .bool t67_1)] ∧ Hp w wl3 [.own A30_0 c30_0 3 1 (List.map encN r1.1), .blk b1 24 [.int .i64 a0.layers, .slice A_a0_bounds a0.bounds.length c_a0_bounds]])) ?_ ?_
          ·
            rintro _ wl3 ⟨t67_1, F, rfl, H⟩
            have R0 := H.ext
            unfold law03_CoreDates_k1 at F
            by_cases hp3 : t67_1 = true
            ·
              replace F := ite_y hp3 F
              have hq3 : t67_1 = true := hp3
              refine CW.condT rfl hq3 ?_
              refine CW.seq fun K10 hK10 => ?_
              refine CW.region ?_
              refine LW.pure rfl rfl (RV.assign rfl) ?_
              refine LW.nil (hK10 _ _ ?_)
              refine CW.ret ?_
              obtain rfl := Option.some.inj F
              refine ⟨_, (ResOK.one rfl), ?_⟩
              refine ⟨(by first | rfl | simp), R0⟩
            ·
              replace F := ite_n hp3 F
              have hq3 : t67_1 = false := raw_f hp3
              refine CW.condF rfl hq3 ?_
              refine CW.skip (hK9 _ _ ?_)
              refine CW.seq fun K11 hK11 => ?_
              by_cases hp4 : r1.2.1 = true
              ·
                replace F := ite_y hp4 F
                have hq4 : r1.2.1 = true := hp4
                obtain ⟨r2, hr2, F⟩ := bnd_some F
                by_cases hp5 : r2 = 0
                ·
                  replace F := ite_y hp5 F
                  have hq5 := dec_t hp5
                  obtain ⟨r3, hr3, F⟩ := bnd_some F
                  refine CW.region ?_
                  refine LW.pure rfl rfl (RV.move rfl) ?_
                  refine LW.pure rfl rfl (RV.not rfl) ?_
                  refine LW.pure rfl rfl (RV.move rfl) ?_
                  refine LW.pureYB rfl rfl rfl rfl (not_f hq4) (RV.loadA [.int .i64 a0.layers, .slice A_a0_bounds a0.bounds.length c_a0_bounds] Tk24 rfl (H.blk 1 rfl).cells rfl rfl) ?_
                  refine LW.pureYB rfl rfl rfl rfl (not_f hq4) (RV.move rfl) ?_
                  refine LW.yesB rfl rfl rfl rfl (not_f hq4) (OW.call Tc38 rfl (ref03_CheckDates_ok (a0 := a0) (a1 := r1.1) (h_a0_bounds.ext R0) (H.own 0 rfl).sl hr2) ?_)
                  rintro _ w6 ⟨rfl, E5⟩
                  refine ⟨_, rfl, ?_⟩
                  replace H := H.grow E5
                  replace R0 := H.ext
                  refine LW.pureYB rfl rfl rfl rfl (not_f hq4) (RV.eqi rfl rfl) ?_
                  refine LW.pure rfl rfl (RV.pickFB rfl (not_f hq4) rfl) ?_
                  refine LW.pure rfl rfl (RV.move rfl) ?_
                  refine LW.pureYB rfl rfl rfl rfl hq5 (RV.move rfl) ?_
                  refine LW.pureYB rfl rfl rfl rfl hq5 (RV.move rfl) ?_
                  refine LW.noB rfl rfl rfl rfl (ne_beq (v := true) hq4 rfl) ?_
                  refine LW.noB rfl rfl rfl rfl (ne_beq (v := true) hq4 rfl) ?_
                  refine LW.noB rfl rfl rfl rfl (ne_beq (v := true) hq4 rfl) ?_
                  refine LW.pureYB rfl rfl rfl rfl hq5 (RV.pickTB rfl hq4 rfl) ?_
                  refine LW.pure rfl rfl (RV.pickTB rfl hq5 rfl) ?_
                  refine LW.pure rfl rfl (RV.move rfl) ?_
                  refine LW.yesB rfl rfl rfl rfl rfl (OW.call Tc18 rfl (law03_known_ok hr3) ?_)
                  rintro _ w7 ⟨rfl, E6⟩
                  refine ⟨_, rfl, ?_⟩
                  replace H := H.grow E6
                  replace R0 := H.ext
                  refine LW.pure rfl rfl (RV.pickTB rfl rfl rfl) ?_
                  refine LW.pure rfl rfl (RV.assign rfl) ?_
                  refine LW.nil (hK11 _ _ ?_)
                  refine CW.ret ?_
                  obtain rfl := Option.some.inj F
                  refine ⟨_, (ResOK.one rfl), ?_⟩
                  refine ⟨(by first | rfl | simp), R0⟩
                ·
                  replace F := ite_n hp5 F
                  have hq5 := dec_f hp5
                  refine CW.region ?_
                  refine LW.pure rfl rfl (RV.move rfl) ?_
                  refine LW.pure rfl rfl (RV.not rfl) ?_
                  refine LW.pure rfl rfl (RV.move rfl) ?_
                  refine LW.pureYB rfl rfl rfl rfl (not_f hq4) (RV.loadA [.int .i64 a0.layers, .slice A_a0_bounds a0.bounds.length c_a0_bounds] Tk24 rfl (H.blk 1 rfl).cells rfl rfl) ?_
                  refine LW.pureYB rfl rfl rfl rfl (not_f hq4) (RV.move rfl) ?_
                  refine LW.yesB rfl rfl rfl rfl (not_f hq4) (OW.call Tc38 rfl (ref03_CheckDates_ok (a0 := a0) (a1 := r1.1) (h_a0_bounds.ext R0) (H.own 0 rfl).sl hr2) ?_)
                  rintro _ w8 ⟨rfl, E7⟩
                  refine ⟨_, rfl, ?_⟩
                  replace H := H.grow E7
                  replace R0 := H.ext
                  refine LW.pureYB rfl rfl rfl rfl (not_f hq4) (RV.eqi rfl rfl) ?_
                  refine LW.pure rfl rfl (RV.pickFB rfl (not_f hq4) rfl) ?_
                  refine LW.pure rfl rfl (RV.move rfl) ?_
                  refine LW.noB rfl rfl rfl rfl (ne_beq (v := false) hq5 rfl) ?_
                  refine LW.noB rfl rfl rfl rfl (ne_beq (v := false) hq5 rfl) ?_
                  refine LW.noU rfl rfl rfl rfl ?_
                  refine LW.noU rfl rfl rfl rfl ?_
                  refine LW.noU rfl rfl rfl rfl ?_
                  refine LW.noB rfl rfl rfl rfl (ne_beq (v := false) hq5 rfl) ?_
                  refine LW.pure rfl rfl (RV.pickFB rfl hq5 rfl) ?_
                  refine LW.pure rfl rfl (RV.move rfl) ?_
                  refine LW.noB rfl rfl rfl rfl (ne_beq (v := false) rfl rfl) ?_
                  refine LW.pure rfl rfl (RV.pickFB rfl rfl rfl) ?_
                  refine LW.pure rfl rfl (RV.assign rfl) ?_
                  refine LW.nil (hK11 _ _ ?_)
                  refine CW.ret ?_
                  obtain rfl := Option.some.inj F
                  refine ⟨_, (ResOK.one rfl), ?_⟩
                  refine ⟨(by first | rfl | simp), R0⟩
              ·
                replace F := ite_n hp4 F
                have hq4 : r1.2.1 = false := raw_f hp4
                by_cases hp6 : ((r1.1.length : Int)) = 0
                ·
                  replace F := ite_y hp6 F
                  have hq6 := dec_t hp6
                  obtain ⟨r4, hr4, F⟩ := bnd_some F
                  refine CW.region ?_
                  refine LW.pure rfl rfl (RV.move rfl) ?_
                  refine LW.pure rfl rfl (RV.not rfl) ?_
                  refine LW.pure rfl rfl (RV.move rfl) ?_
                  refine LW.noB rfl rfl rfl rfl (ne_beq (v := true) (not_t hq4) rfl) ?_
                  refine LW.noB rfl rfl rfl rfl (ne_beq (v := true) (not_t hq4) rfl) ?_
                  refine LW.noB rfl rfl rfl rfl (ne_beq (v := true) (not_t hq4) rfl) ?_
                  refine LW.noB rfl rfl rfl rfl (ne_beq (v := true) (not_t hq4) rfl) ?_
                  refine LW.pure rfl rfl (RV.pickTB rfl (not_t hq4) rfl) ?_
                  refine LW.pure rfl rfl (RV.move rfl) ?_
                  refine LW.pureYB rfl rfl rfl rfl rfl (RV.move rfl) ?_
                  refine LW.pureYB rfl rfl rfl rfl rfl (RV.move rfl) ?_
                  refine LW.pureYB rfl rfl rfl rfl hq4 (RV.move rfl) ?_
                  refine LW.pureYB rfl rfl rfl rfl hq4 (RV.len Ts43 rfl) ?_
                  refine LW.pureYB rfl rfl rfl rfl hq4 (RV.eqi rfl rfl) ?_
                  refine LW.pureYB rfl rfl rfl rfl rfl (RV.pickFB rfl hq4 rfl) ?_
                  refine LW.pure rfl rfl (RV.pickTB rfl rfl rfl) ?_
                  refine LW.pure rfl rfl (RV.move rfl) ?_
                  refine LW.yesB rfl rfl rfl rfl hq6 (OW.call Tc18 rfl (law03_known_ok hr4) ?_)
                  rintro _ w9 ⟨rfl, E8⟩
                  refine ⟨_, rfl, ?_⟩
                  replace H := H.grow E8
                  replace R0 := H.ext
                  refine LW.pure rfl rfl (RV.pickTB rfl hq6 rfl) ?_
                  refine LW.pure rfl rfl (RV.assign rfl) ?_
                  refine LW.nil (hK11 _ _ ?_)
                  refine CW.ret ?_
                  obtain rfl := Option.some.inj F
                  refine ⟨_, (ResOK.one rfl), ?_⟩
                  refine ⟨(by first | rfl | simp), R0⟩
                ·
                  replace F := ite_n hp6 F
                  have hq6 := dec_f hp6
                  refine CW.region ?_
                  refine LW.pure rfl rfl (RV.move rfl) ?_
                  refine LW.pure rfl rfl (RV.not rfl) ?_
                  refine LW.pure rfl rfl (RV.move rfl) ?_
                  refine LW.noB rfl rfl rfl rfl (ne_beq (v := true) (not_t hq4) rfl) ?_
                  refine LW.noB rfl rfl rfl rfl (ne_beq (v := true) (not_t hq4) rfl) ?_
                  refine LW.noB rfl rfl rfl rfl (ne_beq (v := true) (not_t hq4) rfl) ?_
                  refine LW.noB rfl rfl rfl rfl (ne_beq (v := true) (not_t hq4) rfl) ?_
                  refine LW.pure rfl rfl (RV.pickTB rfl (not_t hq4) rfl) ?_
                  refine LW.pure rfl rfl (RV.move rfl) ?_
                  refine LW.pureYB rfl rfl rfl rfl rfl (RV.move rfl) ?_
                  refine LW.pureYB rfl rfl rfl rfl rfl (RV.move rfl) ?_
                  refine LW.pureYB rfl rfl rfl rfl hq4 (RV.move rfl) ?_
                  refine LW.pureYB rfl rfl rfl rfl hq4 (RV.len Ts43 rfl) ?_
                  refine LW.pureYB rfl rfl rfl rfl hq4 (RV.eqi rfl rfl) ?_
                  refine LW.pureYB rfl rfl rfl rfl rfl (RV.pickFB rfl hq4 rfl) ?_
                  refine LW.pure rfl rfl (RV.pickTB rfl rfl rfl) ?_
                  refine LW.pure rfl rfl (RV.move rfl) ?_
                  refine LW.noB rfl rfl rfl rfl (ne_beq (v := false) hq6 rfl) ?_
                  refine LW.pure rfl rfl (RV.pickFB rfl hq6 rfl) ?_
                  refine LW.pure rfl rfl (RV.assign rfl) ?_
                  refine LW.nil (hK11 _ _ ?_)
                  refine CW.ret ?_
                  obtain rfl := Option.some.inj F
                  refine ⟨_, (ResOK.one rfl), ?_⟩
                  refine ⟨(by first | rfl | simp), R0⟩
          ·
            intro K12 hK12 jK26
            by_cases hp7 : r1.2.2 = r5.2
            ·
              replace F := ite_y hp7 F
              have hq7 := dec_t hp7
              refine CW.region ?_
              refine LW.pure rfl rfl (RV.move rfl) ?_
              refine LW.pure rfl rfl (RV.move rfl) ?_
              refine LW.pure rfl rfl (RV.nei rfl rfl) ?_
              refine LW.pure rfl rfl (RV.move rfl) ?_
              refine LW.pureYB rfl rfl rfl rfl (not_f hq7) (RV.move rfl) ?_
              refine LW.pureYB rfl rfl rfl rfl (not_f hq7) (RV.move rfl) ?_
              refine LW.pureYB rfl rfl rfl rfl (not_f hq7) (RV.neb Tb4 rfl rfl) ?_
              refine LW.pure rfl rfl (RV.pickFB rfl (not_f hq7) rfl) ?_
              refine LW.nil (jK26 _ _ ⟨_, ?_, ⟨(!(r1.2.1 == r5.1)), F, rfl, H⟩⟩)
              exact ⟨rfl, rfl, (look_slice rfl (by first | rfl | (simp; done) | (simp; omega))), rfl, rfl, trivial⟩
            ·
              replace F := ite_n hp7 F
              have hq7 := dec_f hp7
              refine CW.region ?_
              refine LW.pure rfl rfl (RV.move rfl) ?_
              refine LW.pure rfl rfl (RV.move rfl) ?_
              refine LW.pure rfl rfl (RV.nei rfl rfl) ?_
              refine LW.pure rfl rfl (RV.move rfl) ?_
              refine LW.noB rfl rfl rfl rfl (ne_beq (v := true) (not_t hq7) rfl) ?_
              refine LW.noB rfl rfl rfl rfl (ne_beq (v := true) (not_t hq7) rfl) ?_
              refine LW.noB rfl rfl rfl rfl (ne_beq (v := true) (not_t hq7) rfl) ?_
              refine LW.pure rfl rfl (RV.pickTB rfl (not_t hq7) rfl) ?_
              refine LW.nil (jK26 _ _ ⟨_, ?_, ⟨true, F, rfl, H⟩⟩)
              exact ⟨rfl, rfl, (look_slice rfl (by first | rfl | (simp; done) | (simp; omega))), rfl, rfl, trivial⟩
      ·
        intro K13 hK13 jK27
        obtain ⟨r8, hr8, F⟩ := bnd_some F
        obtain ⟨r9, hr9, F⟩ := bnd_some F
        by_cases hp8 : r8 = r9
        ·
          replace F := ite_y hp8 F
          have hq8 := dec_t hp8
          by_cases hp9 : (r7.1 == r5.1) = true
          ·
            replace F := ite_y hp9 F
            have hq9 : (r7.1 == r5.1) = true := hp9
            by_cases hp10 : r7.2 = r5.2
            ·
              replace F := ite_y hp10 F
              have hq10 := dec_t hp10
              obtain ⟨r10, hr10, F⟩ := bnd_some F
              obtain ⟨r11, hr11, F⟩ := bnd_some F
              refine CW.draw [] (fun _ => True) (.cons 0 1 (.cons 2 1 (.cons 1 0 (.cons 3 0 (.cons 4 1 (.cons 5 1 (.cons 6 1 (.cons 7 1 (.cons 8 1 (.cons 9 1 (.cons 10 1 (.cons 11 1 (.cons 12 1 (.cons 13 1 (.cons 14 1 (.cons 15 1 (.cons 16 1 (.cons 17 1 (.cons 19 1 (.cons 20 1 (.cons 18 0 (.cons 21 0 (.cons 22 1 (.cons 23 1 .nil)))))))))))))))))))))))) mixed (by kernel_rfl) fun w10 E9 => ?_
              replace H := H.grow E9
              replace R0 := H.ext
              refine DW.fix rfl rfl rfl (fun _ EQ => RV.loadA [.int .i64 a0.layers, .slice A_a0_bounds a0.bounds.length c_a0_bounds] Tk24 rfl ((H.grow EQ).blk 0 rfl).cells rfl rfl) ?_
              refine DW.fix rfl rfl rfl (fun _ EQ => RV.loadA [.int .i64 a0.layers, .slice A_a0_bounds a0.bounds.length c_a0_bounds] Tk24 rfl ((H.grow EQ).blk 0 rfl).cells rfl rfl) ?_
              refine DW.sole rfl rfl rfl (OW.call Tc36 rfl (core_Validate_ok (a0 := a0) (h_a0_bounds.ext R0) hr8) ?_)
              rintro _ w11 ⟨rfl, E10⟩
              refine ⟨_, rfl, fun _ => E10, ModX.ext E10, ?_⟩
              replace H := H.grow E10
              replace R0 := H.ext
              refine DW.sole rfl rfl rfl (OW.call Tc37 rfl (ref03_Validate_ok (a0 := a0) (h_a0_bounds.ext R0) hr9) ?_)
              rintro _ w12 ⟨rfl, E11⟩
              refine ⟨_, rfl, fun _ => E11, ModX.ext E11, ?_⟩
              replace H := H.grow E11
              replace R0 := H.ext
              refine DW.fix rfl rfl rfl (fun _ EQ => RV.nei rfl rfl) ?_
              refine DW.fix rfl rfl rfl (fun _ EQ => RV.move rfl) ?_
              refine DW.fixYB rfl rfl rfl rfl rfl (not_f hq8) (fun _ EQ => RV.move rfl) ?_
              refine DW.fixYB rfl rfl rfl rfl rfl (not_f hq8) (fun _ EQ => RV.move rfl) ?_
              refine DW.fixYB rfl rfl rfl rfl rfl (not_f hq8) (fun _ EQ => RV.neb Tb4 rfl rfl) ?_
              refine DW.fix rfl rfl rfl (fun _ EQ => RV.pickFB rfl (not_f hq8) rfl) ?_
              refine DW.fix rfl rfl rfl (fun _ EQ => RV.move rfl) ?_
              refine DW.fixYB rfl rfl rfl rfl rfl (not_f hq9) (fun _ EQ => RV.move rfl) ?_
              refine DW.fixYB rfl rfl rfl rfl rfl (not_f hq9) (fun _ EQ => RV.move rfl) ?_
              refine DW.fixYB rfl rfl rfl rfl rfl (not_f hq9) (fun _ EQ => RV.nei rfl rfl) ?_
              refine DW.fix rfl rfl rfl (fun _ EQ => RV.pickFB rfl (not_f hq9) rfl) ?_
              refine DW.fix rfl rfl rfl (fun _ EQ => RV.move rfl) ?_
              refine DW.fixYB rfl rfl rfl rfl rfl (not_f hq10) (fun _ EQ => RV.loadA [.int .i64 a0.layers, .slice A_a0_bounds a0.bounds.length c_a0_bounds] Tk24 rfl ((H.grow EQ).blk 0 rfl).cells rfl rfl) ?_
              refine DW.fixYB rfl rfl rfl rfl rfl (not_f hq10) (fun _ EQ => RV.move rfl) ?_
              refine DW.fixYB rfl rfl rfl rfl rfl (not_f hq10) (fun _ EQ => RV.loadA [.int .i64 a0.layers, .slice A_a0_bounds a0.bounds.length c_a0_bounds] Tk24 rfl ((H.grow EQ).blk 0 rfl).cells rfl rfl) ?_
              refine DW.fixYB rfl rfl rfl rfl rfl (not_f hq10) (fun _ EQ => RV.move rfl) ?_
              refine DW.soleYB rfl rfl rfl rfl rfl (not_f hq10) (OW.call Tc33 rfl (core_CheckDates_ok (a0 := a0) (a1 := a1) (h_a0_bounds.ext R0) (h_a1.ext R0) hr10) ?_)
              rintro _ w13 ⟨rfl, E12⟩
              refine ⟨_, rfl, fun _ => E12, ModX.ext E12, ?_⟩
              replace H := H.grow E12
              replace R0 := H.ext
              refine DW.soleYB rfl rfl rfl rfl rfl (not_f hq10) (OW.call Tc38 rfl (ref03_CheckDates_ok (a0 := a0) (a1 := a1) (h_a0_bounds.ext R0) (h_a1.ext R0) hr11) ?_)
              rintro _ w14 ⟨rfl, E13⟩
              refine ⟨_, rfl, fun _ => E13, ModX.ext E13, ?_⟩
              replace H := H.grow E13
              replace R0 := H.ext
              refine DW.fixYB rfl rfl rfl rfl rfl (not_f hq10) (fun _ EQ => RV.nei rfl rfl) ?_
              refine DW.fix rfl rfl rfl (fun _ EQ => RV.pickFB rfl (not_f hq10) rfl) ?_
              refine DW.nil (jK27 _ _ ⟨_, ?_, ⟨(!(decide (r10 = r11))), F, rfl, H⟩⟩)
              exact ⟨rfl, rfl, rfl, rfl, rfl, trivial⟩
            ·
              replace F := ite_n hp10 F
              have hq10 := dec_f hp10
              refine CW.draw [] (fun _ => True) (.cons 0 1 (.cons 2 1 (.cons 1 0 (.cons 3 0 (.cons 4 1 (.cons 5 1 (.cons 6 1 (.cons 7 1 (.cons 8 1 (.cons 9 1 (.cons 10 1 (.cons 11 1 (.cons 12 1 (.cons 13 1 (.cons 14 1 (.cons 15 1 (.cons 16 1 (.cons 17 1 (.cons 19 1 (.cons 20 1 (.cons 18 0 (.cons 21 0 (.cons 22 1 (.cons 23 1 .nil)))))))))))))))))))))))) mixed (by kernel_rfl) fun w15 E14 => ?_
              replace H := H.grow E14
              replace R0 := H.ext
              refine DW.fix rfl rfl rfl (fun _ EQ => RV.loadA [.int .i64 a0.layers, .slice A_a0_bounds a0.bounds.length c_a0_bounds] Tk24 rfl ((H.grow EQ).blk 0 rfl).cells rfl rfl) ?_
              refine DW.fix rfl rfl rfl (fun _ EQ => RV.loadA [.int .i64 a0.layers, .slice A_a0_bounds a0.bounds.length c_a0_bounds] Tk24 rfl ((H.grow EQ).blk 0 rfl).cells rfl rfl) ?_
              refine DW.sole rfl rfl rfl (OW.call Tc36 rfl (core_Validate_ok (a0 := a0) (h_a0_bounds.ext R0) hr8) ?_)
              rintro _ w16 ⟨rfl, E15⟩
              refine ⟨_, rfl, fun _ => E15, ModX.ext E15, ?_⟩
              replace H := H.grow E15
              replace R0 := H.ext
              refine DW.sole rfl rfl rfl (OW.call Tc37 rfl (ref03_Validate_ok (a0 := a0) (h_a0_bounds.ext R0) hr9) ?_)
              rintro _ w17 ⟨rfl, E16⟩
              refine ⟨_, rfl, fun _ => E16, ModX.ext E16, ?_⟩
              replace H := H.grow E16
              replace R0 := H.ext
              refine DW.fix rfl rfl rfl (fun _ EQ => RV.nei rfl rfl) ?_
              refine DW.fix rfl rfl rfl (fun _ EQ => RV.move rfl) ?_
              refine DW.fixYB rfl rfl rfl rfl rfl (not_f hq8) (fun _ EQ => RV.move rfl) ?_
              refine DW.fixYB rfl rfl rfl rfl rfl (not_f hq8) (fun _ EQ => RV.move rfl) ?_
              refine DW.fixYB rfl rfl rfl rfl rfl (not_f hq8) (fun _ EQ => RV.neb Tb4 rfl rfl) ?_
              refine DW.fix rfl rfl rfl (fun _ EQ => RV.pickFB rfl (not_f hq8) rfl) ?_
              refine DW.fix rfl rfl rfl (fun _ EQ => RV.move rfl) ?_
              refine DW.fixYB rfl rfl rfl rfl rfl (not_f hq9) (fun _ EQ => RV.move rfl) ?_
              refine DW.fixYB rfl rfl rfl rfl rfl (not_f hq9) (fun _ EQ => RV.move rfl) ?_
              refine DW.fixYB rfl rfl rfl rfl rfl (not_f hq9) (fun _ EQ => RV.nei rfl rfl) ?_
              refine DW.fix rfl rfl rfl (fun _ EQ => RV.pickFB rfl (not_f hq9) rfl) ?_
              refine DW.fix rfl rfl rfl (fun _ EQ => RV.move rfl) ?_
              refine DW.fixNB rfl rfl rfl rfl rfl (ne_beq (v := true) (not_t hq10) rfl) ?_
              refine DW.fixNB rfl rfl rfl rfl rfl (ne_beq (v := true) (not_t hq10) rfl) ?_
              refine DW.fixNB rfl rfl rfl rfl rfl (ne_beq (v := true) (not_t hq10) rfl) ?_
              refine DW.fixNB rfl rfl rfl rfl rfl (ne_beq (v := true) (not_t hq10) rfl) ?_
              refine DW.soleNB rfl rfl rfl rfl rfl (ne_beq (v := true) (not_t hq10) rfl) ?_
              refine DW.soleNB rfl rfl rfl rfl rfl (ne_beq (v := true) (not_t hq10) rfl) ?_
              refine DW.fixNB rfl rfl rfl rfl rfl (ne_beq (v := true) (not_t hq10) rfl) ?_
              refine DW.fix rfl rfl rfl (fun _ EQ => RV.pickTB rfl (not_t hq10) rfl) ?_
              refine DW.nil (jK27 _ _ ⟨_, ?_, ⟨true, F, rfl, H⟩⟩)
              exact ⟨rfl, rfl, rfl, rfl, rfl, trivial⟩
          ·
            replace F := ite_n hp9 F
            have hq9 : (r7.1 == r5.1) = false := raw_f hp9
            refine CW.draw [] (fun _ => True) (.cons 0 1 (.cons 2 1 (.cons 1 0 (.cons 3 0 (.cons 4 1 (.cons 5 1 (.cons 6 1 (.cons 7 1 (.cons 8 1 (.cons 9 1 (.cons 10 1 (.cons 11 1 (.cons 12 1 (.cons 13 1 (.cons 14 1 (.cons 15 1 (.cons 16 1 (.cons 17 1 (.cons 19 1 (.cons 20 1 (.cons 18 0 (.cons 21 0 (.cons 22 1 (.cons 23 1 .nil)))))))))))))))))))))))) mixed (by kernel_rfl) fun w18 E17 => ?_
            replace H := H.grow E17
            replace R0 := H.ext
            refine DW.fix rfl rfl rfl (fun _ EQ => RV.loadA [.int .i64 a0.layers, .slice A_a0_bounds a0.bounds.length c_a0_bounds] Tk24 rfl ((H.grow EQ).blk 0 rfl).cells rfl rfl) ?_
            refine DW.fix rfl rfl rfl (fun _ EQ => RV.loadA [.int .i64 a0.layers, .slice A_a0_bounds a0.bounds.length c_a0_bounds] Tk24 rfl ((H.grow EQ).blk 0 rfl).cells rfl rfl) ?_
            refine DW.sole rfl rfl rfl (OW.call Tc36 rfl (core_Validate_ok (a0 := a0) (h_a0_bounds.ext R0) hr8) ?_)
            rintro _ w19 ⟨rfl, E18⟩
            refine ⟨_, rfl, fun _ => E18, ModX.ext E18, ?_⟩
            replace H := H.grow E18
            replace R0 := H.ext
            refine DW.sole rfl rfl rfl (OW.call Tc37 rfl (ref03_Validate_ok (a0 := a0) (h_a0_bounds.ext R0) hr9) ?_)
            rintro _ w20 ⟨rfl, E19⟩
            refine ⟨_, rfl, fun _ => E19, ModX.ext E19, ?_⟩
            replace H := H.grow E19
            replace R0 := H.ext
            refine DW.fix rfl rfl rfl (fun _ EQ => RV.nei rfl rfl) ?_
            refine DW.fix rfl rfl rfl (fun _ EQ => RV.move rfl) ?_
            refine DW.fixYB rfl rfl rfl rfl rfl (not_f hq8) (fun _ EQ => RV.move rfl) ?_
            refine DW.fixYB rfl rfl rfl rfl rfl (not_f hq8) (fun _ EQ => RV.move rfl) ?_
            refine DW.fixYB rfl rfl rfl rfl rfl (not_f hq8) (fun _ EQ => RV.neb Tb4 rfl rfl) ?_
            refine DW.fix rfl rfl rfl (fun _ EQ => RV.pickFB rfl (not_f hq8) rfl) ?_
            refine DW.fix rfl rfl rfl (fun _ EQ => RV.move rfl) ?_
            refine DW.fixNB rfl rfl rfl rfl rfl (ne_beq (v := true) (not_t hq9) rfl) ?_
            refine DW.fixNB rfl rfl rfl rfl rfl (ne_beq (v := true) (not_t hq9) rfl) ?_
            refine DW.fixNB rfl rfl rfl rfl rfl (ne_beq (v := true) (not_t hq9) rfl) ?_
            refine DW.fix rfl rfl rfl (fun _ EQ => RV.pickTB rfl (not_t hq9) rfl) ?_
            refine DW.fix rfl rfl rfl (fun _ EQ => RV.move rfl) ?_
            refine DW.fixNB rfl rfl rfl rfl rfl (ne_beq (v := true) rfl rfl) ?_
            refine DW.fixNB rfl rfl rfl rfl rfl (ne_beq (v := true) rfl rfl) ?_
            refine DW.fixNB rfl rfl rfl rfl rfl (ne_beq (v := true) rfl rfl) ?_
            refine DW.fixNB rfl rfl rfl rfl rfl (ne_beq (v := true) rfl rfl) ?_
            refine DW.soleNB rfl rfl rfl rfl rfl (ne_beq (v := true) rfl rfl) ?_
            refine DW.soleNB rfl rfl rfl rfl rfl (ne_beq (v := true) rfl rfl) ?_
            refine DW.fixNB rfl rfl rfl rfl rfl (ne_beq (v := true) rfl rfl) ?_
            refine DW.fix rfl rfl rfl (fun _ EQ => RV.pickTB rfl rfl rfl) ?_
            refine DW.nil (jK27 _ _ ⟨_, ?_, ⟨true, F, rfl, H⟩⟩)
            exact ⟨rfl, rfl, rfl, rfl, rfl, trivial⟩
        ·
          replace F := ite_n hp8 F
          have hq8 := dec_f hp8
          refine CW.draw [] (fun _ => True) (.cons 0 1 (.cons 2 1 (.cons 1 0 (.cons 3 0 (.cons 4 1 (.cons 5 1 (.cons 6 1 (.cons 7 1 (.cons 8 1 (.cons 9 1 (.cons 10 1 (.cons 11 1 (.cons 12 1 (.cons 13 1 (.cons 14 1 (.cons 15 1 (.cons 16 1 (.cons 17 1 (.cons 19 1 (.cons 20 1 (.cons 18 0 (.cons 21 0 (.cons 22 1 (.cons 23 1 .nil)))))))))))))))))))))))) mixed (by kernel_rfl) fun w21 E20 => ?_
          replace H := H.grow E20
          replace R0 := H.ext
          refine DW.fix rfl rfl rfl (fun _ EQ => RV.loadA [.int .i64 a0.layers, .slice A_a0_bounds a0.bounds.length c_a0_bounds] Tk24 rfl ((H.grow EQ).blk 0 rfl).cells rfl rfl) ?_
          refine DW.fix rfl rfl rfl (fun _ EQ => RV.loadA [.int .i64 a0.layers, .slice A_a0_bounds a0.bounds.length c_a0_bounds] Tk24 rfl ((H.grow EQ).blk 0 rfl).cells rfl rfl) ?_
          refine DW.sole rfl rfl rfl (OW.call Tc36 rfl (core_Validate_ok (a0 := a0) (h_a0_bounds.ext R0) hr8) ?_)
          rintro _ w22 ⟨rfl, E21⟩
          refine ⟨_, rfl, fun _ => E21, ModX.ext E21, ?_⟩
          replace H := H.grow E21
          replace R0 := H.ext
          refine DW.sole rfl rfl rfl (OW.call Tc37 rfl (ref03_Validate_ok (a0 := a0) (h_a0_bounds.ext R0) hr9) ?_)
          rintro _ w23 ⟨rfl, E22⟩
          refine ⟨_, rfl, fun _ => E22, ModX.ext E22, ?_⟩
          replace H := H.grow E22
          replace R0 := H.ext
          refine DW.fix rfl rfl rfl (fun _ EQ => RV.nei rfl rfl) ?_
          refine DW.fix rfl rfl rfl (fun _ EQ => RV.move rfl) ?_
          refine DW.fixNB rfl rfl rfl rfl rfl (ne_beq (v := true) (not_t hq8) rfl) ?_
          refine DW.fixNB rfl rfl rfl rfl rfl (ne_beq (v := true) (not_t hq8) rfl) ?_
          refine DW.fixNB rfl rfl rfl rfl rfl (ne_beq (v := true) (not_t hq8) rfl) ?_
          refine DW.fix rfl rfl rfl (fun _ EQ => RV.pickTB rfl (not_t hq8) rfl) ?_
          refine DW.fix rfl rfl rfl (fun _ EQ => RV.move rfl) ?_
          refine DW.fixNB rfl rfl rfl rfl rfl (ne_beq (v := true) rfl rfl) ?_
          refine DW.fixNB rfl rfl rfl rfl rfl (ne_beq (v := true) rfl rfl) ?_
          refine DW.fixNB rfl rfl rfl rfl rfl (ne_beq (v := true) rfl rfl) ?_
          refine DW.fix rfl rfl rfl (fun _ EQ => RV.pickTB rfl rfl rfl) ?_
          refine DW.fix rfl rfl rfl (fun _ EQ => RV.move rfl) ?_
          refine DW.fixNB rfl rfl rfl rfl rfl (ne_beq (v := true) rfl rfl) ?_
          refine DW.fixNB rfl rfl rfl rfl rfl (ne_beq (v := true) rfl rfl) ?_
          refine DW.fixNB rfl rfl rfl rfl rfl (ne_beq (v := true) rfl rfl) ?_
          refine DW.fixNB rfl rfl rfl rfl rfl (ne_beq (v := true) rfl rfl) ?_
          refine DW.soleNB rfl rfl rfl rfl rfl (ne_beq (v := true) rfl rfl) ?_
          refine DW.soleNB rfl rfl rfl rfl rfl (ne_beq (v := true) rfl rfl) ?_
          refine DW.fixNB rfl rfl rfl rfl rfl (ne_beq (v := true) rfl rfl) ?_
          refine DW.fix rfl rfl rfl (fun _ EQ => RV.pickTB rfl rfl rfl) ?_
          refine DW.nil (jK27 _ _ ⟨_, ?_, ⟨true, F, rfl, H⟩⟩)
          exact ⟨rfl, rfl, rfl, rfl, rfl, trivial⟩
  ·
    intro K14 hK14 jK28
    obtain ⟨r12, hr12, F⟩ := bnd_some F
    by_cases hp11 : r12 = true
    ·
      replace F := ite_y hp11 F
      have hq11 : r12 = true := hp11
      refine CW.region ?_
      refine LW.pure rfl rfl (RV.loadA [.int .i64 a0.layers, .slice A_a0_bounds a0.bounds.length c_a0_bounds] Tk24 rfl (H.blk 0 rfl).cells rfl rfl) ?_
      refine LW.go rfl rfl (OW.call Tc17 rfl (law03_Long_ok (a0 := a0) (h_a0_bounds.ext R0) hr12) ?_)
      rintro _ w24 ⟨rfl, E23⟩
      refine ⟨_, rfl, ?_⟩
      replace H := H.grow E23
      replace R0 := H.ext
      refine LW.pure rfl rfl (RV.move rfl) ?_
      refine LW.noB rfl rfl rfl rfl (ne_beq (v := true) hq11 rfl) ?_
      refine LW.noB rfl rfl rfl rfl (ne_beq (v := true) hq11 rfl) ?_
      refine LW.noB rfl rfl rfl rfl (ne_beq (v := true) hq11 rfl) ?_
      refine LW.pure rfl rfl (RV.pickTB rfl hq11 rfl) ?_
      refine LW.nil (jK28 _ _ ⟨_, ?_, ⟨true, F, rfl, H⟩⟩)
      exact ⟨rfl, rfl, rfl, rfl, trivial⟩
    ·
      replace F := ite_n hp11 F
      have hq11 : r12 = false := raw_f hp11
      refine CW.region ?_
      refine LW.pure rfl rfl (RV.loadA [.int .i64 a0.layers, .slice A_a0_bounds a0.bounds.length c_a0_bounds] Tk24 rfl (H.blk 0 rfl).cells rfl rfl) ?_
      refine LW.go rfl rfl (OW.call Tc17 rfl (law03_Long_ok (a0 := a0) (h_a0_bounds.ext R0) hr12) ?_)
      rintro _ w25 ⟨rfl, E24⟩
      refine ⟨_, rfl, ?_⟩
      replace H := H.grow E24
      replace R0 := H.ext
      refine LW.pure rfl rfl (RV.move rfl) ?_
      refine LW.pureYB rfl rfl rfl rfl hq11 (RV.move rfl) ?_
      refine LW.pureYB rfl rfl rfl rfl hq11 (RV.len Ts43 rfl) ?_
      refine LW.pureYB rfl rfl rfl rfl hq11 (RV.gtr rfl rfl) ?_
      refine LW.pure rfl rfl (RV.pickFB rfl hq11 rfl) ?_
      refine LW.nil (jK28 _ _ ⟨_, ?_, ⟨(decide ((100 : Int) < ((a1.length : Int)))), F, rfl, H⟩⟩)
      exact ⟨rfl, rfl, rfl, rfl, trivial⟩

set_option maxRecDepth 20000 in
set_option maxHeartbeats 1000000 in
theorem core_CheckClash_ok {a0 : Core} {a1 : List Int} {A_a0_bounds : Option Addr} {c_a0_bounds : Nat} {A_a1 : Option Addr} {c_a1 : Nat} {w : World} {res : Int} (h_a0_bounds : Sl w A_a0_bounds c_a0_bounds 3 (a0.bounds.map encBound)) (h_a1 : Sl w A_a1 c_a1 1 (a1.map encN)) (F : core_CheckClash a0 a1 = some res) : Calls Try.prog 40 #[.agg #[.int .i64 a0.layers, .slice A_a0_bounds a0.bounds.length c_a0_bounds], .slice A_a1 a1.length c_a1] w (Rt w (.int .i64 res)) := by
  refine calls_of_cw (args := [.agg #[.int .i64 a0.layers, .slice A_a0_bounds a0.bounds.length c_a0_bounds], .slice A_a1 a1.length c_a1]) Try.func40 rfl rfl rfl rfl ?_
  have H := Hp.start w
  have R0 := H.ext
  unfold core_CheckClash at F
  refine CW.seq fun K1 hK1 => ?_
  refine CW.region ?_
  refine LW.go rfl rfl (OW.box rfl fun b1 w1 N1 => ?_)
  replace H := H.new N1 N1.blk
  replace R0 := H.ext
  refine LW.pure rfl rfl (RV.assign rfl) ?_
  refine LW.nil (hK1 _ _ ?_)
  refine CW.seq fun K2 hK2 => ?_
  refine CW.seq fun K3 hK3 => ?_
  obtain ⟨r2, hr2, F⟩ := bnd_some F
  refine CW.region ?_
  refine LW.pure rfl rfl (RV.loadA [.int .i64 a0.layers, .slice A_a0_bounds a0.bounds.length c_a0_bounds] Tk24 rfl (H.blk 0 rfl).cells rfl rfl) ?_
  refine LW.go rfl rfl (OW.call Tc36 rfl (core_Validate_ok (a0 := a0) (h_a0_bounds.ext R0) hr2) ?_)
  rintro _ w2 ⟨rfl, E1⟩
  refine ⟨_, rfl, ?_⟩
  replace H := H.grow E1
  replace R0 := H.ext
  refine LW.pure rfl rfl (RV.assign rfl) ?_
  refine LW.nil (hK3 _ _ ?_)
  refine CW.seq fun K4 hK4 => ?_
  refine CW.region ?_
  refine LW.pure rfl rfl (RV.move rfl) ?_
  refine LW.pure rfl rfl (RV.nei rfl rfl) ?_
  refine LW.nil (hK4 _ _ ?_)
  by_cases hp1 : r2 = 0
  ·
    replace F := ite_y hp1 F
    have hq1 := dec_t hp1
    refine CW.condF rfl (not_f hq1) ?_
    refine CW.skip (hK2 _ _ ?_)
    refine CW.seq fun K5 hK5 => ?_
    refine CW.seq fun K6 hK6 => ?_
    refine CW.region ?_
    refine LW.pure rfl rfl (RV.move rfl) ?_
    refine LW.pure rfl rfl (RV.len Ts43 rfl) ?_
    refine LW.pure rfl rfl (RV.gtr rfl rfl) ?_
    refine LW.nil (hK6 _ _ ?_)
    by_cases hp2 : (20 : Int) < ((a1.length : Int))
    ·
      replace F := ite_y hp2 F
      have hq2 := dec_t hp2
      refine CW.condT rfl hq2 ?_
      refine CW.seq fun K7 hK7 => ?_
      refine CW.region ?_
      refine LW.pure rfl rfl (RV.assign rfl) ?_
      refine LW.nil (hK7 _ _ ?_)
      refine CW.ret ?_
      obtain rfl := Option.some.inj F
      refine ⟨_, (ResOK.one rfl), ?_⟩
      refine ⟨(by first | rfl | simp), R0⟩
    ·
      replace F := ite_n hp2 F
      have hq2 := dec_f hp2
      refine CW.condF rfl hq2 ?_
      refine CW.skip (hK5 _ _ ?_)
      refine CW.seqJ (fun ρ wl1 => (core_CheckClash_k2 a0 a1 = some res ∧ ρ = [(1, .slice A_a1 a1.length c_a1), (2, .pointer (some (⟨b1, 0, none⟩))), (4, .int .i64 0)] ∧ Hp w wl1 [.blk b1 24 [.int .i64 a0.layers, .slice A_a0_bounds a0.bounds.length c_a0_bounds]])) ?_ ?_
      ·
        rintro _ wl1 ⟨F, rfl, H⟩
        have R0 := H.ext
        unfold core_CheckClash_k2 at F
        refine CW.seq fun K8 hK8 => ?_
        refine CW.region ?_
        refine LW.pure rfl rfl (RV.assign rfl) ?_
        refine LW.nil (hK8 _ _ ?_)
        refine CW.seqJ (fun ρ wl2 => (∃ (t8_1 : Int), core_CheckClash_k1 t8_1 = some res ∧ ρ = [(4, .int .i64 0), (8, .int .i64 t8_1)] ∧ Hp w wl2 [])) ?_ ?_
        ·
          rintro _ wl2 ⟨t8_1, F, rfl, H⟩
          have R0 := H.ext
          unfold core_CheckClash_k1 at F
          refine CW.seq fun K9 hK9 => ?_
          refine CW.seq fun K10 hK10 => ?_
          refine CW.region ?_
          refine LW.pure rfl rfl (RV.move rfl) ?_
          refine LW.pure rfl rfl (RV.geq rfl rfl) ?_
          refine LW.nil (hK10 _ _ ?_)
          by_cases hp3 : (0 : Int) ≤ t8_1
          ·
            replace F := ite_y hp3 F
            have hq3 := dec_t hp3
            refine CW.condT rfl hq3 ?_
            refine CW.seq fun K11 hK11 => ?_
            refine CW.region ?_
            refine LW.pure rfl rfl (RV.assign rfl) ?_
            refine LW.nil (hK11 _ _ ?_)
            refine CW.ret ?_
            obtain rfl := Option.some.inj F
            refine ⟨_, (ResOK.one rfl), ?_⟩
            refine ⟨(by first | rfl | simp), R0⟩
          ·
            replace F := ite_n hp3 F
            have hq3 := dec_f hp3
            refine CW.condF rfl hq3 ?_
            refine CW.skip (hK9 _ _ ?_)
            refine CW.seq fun K12 hK12 => ?_
            refine CW.region ?_
            refine LW.pure rfl rfl (RV.assign rfl) ?_
            refine LW.nil (hK12 _ _ ?_)
            refine CW.ret ?_
            obtain rfl := Option.some.inj F
            refine ⟨_, (ResOK.one rfl), ?_⟩
            refine ⟨(by first | rfl | simp), R0⟩
        ·
          intro K13 hK13 jK160
          refine CW.seq fun K14 hK14 => ?_
          refine CW.region ?_
          refine LW.pure rfl rfl (RV.move rfl) ?_
          refine LW.pure rfl rfl (RV.len Ts43 rfl) ?_
          refine LW.pure rfl rfl (RV.move rfl) ?_
          refine LW.nil (hK14 _ _ ?_)
          refine CW.block ?_
          refine CW.loop (fun meas ρ wl3 => ∃ (t8_2 : Int) (t36_1 : Int), core_CheckClash_L1 a0 a1 meas t8_2 t36_1 = some res ∧ ρ = [(1, .slice A_a1 a1.length c_a1), (2, .pointer (some (⟨b1, 0, none⟩))), (4, .int .i64 0), (8, .int .i64 t8_2), (34, .slice A_a1 a1.length c_a1), (35, .int .i64 ((a1.length : Int))), (36, .int .i64 t36_1)] ∧ Hp w wl3 [.blk b1 24 [.int .i64 a0.layers, .slice A_a0_bounds a0.bounds.length c_a0_bounds]]) FU ⟨_, ?_, ((0 : Int)), ((0 : Int)), F, rfl, H⟩ ?_
          · exact ⟨rfl, rfl, rfl, rfl, rfl, rfl, rfl, trivial⟩
          rintro mk1 _ wl3 ⟨t8_2, t36_1, F, rfl, H⟩
          have R0 := H.ext
          replace F := core_CheckClash_L1_s F
          obtain ⟨mk1, rfl, F⟩ := F
          generalize hrec1 : core_CheckClash_L1 a0 a1 mk1 = rec1 at F
          unfold core_CheckClash_B1 at F
          refine CW.seq fun K15 hK15 => ?_
          refine CW.region ?_
          refine LW.pure rfl rfl (RV.lss rfl rfl) ?_
          refine LW.nil (hK15 _ _ ?_)
          refine CW.seq fun K16 hK16 => ?_
          by_cases hp4 : t36_1 < ((a1.length : Int))
          ·
            replace F := ite_y hp4 F
            have hq4 := dec_t hp4
            refine CW.condT rfl hq4 ?_
            refine CW.skip (hK16 _ _ ?_)
            refine CW.seq fun K17 hK17 => ?_
            refine CW.block ?_
            refine CW.seq fun K18 hK18 => ?_
            obtain ⟨x1, hbx1, hx1, F⟩ := ix_some F
            refine CW.region ?_
            refine LW.pure rfl rfl (RV.move rfl) ?_
            refine LW.pure rfl rfl (RV.indexAddr Ts43 rfl rfl hbx1 (h_a1.addr_ hx1)) ?_
            refine LW.pure rfl rfl (RV.load1 Tk3 rfl ((h_a1.at_ hx1).ext R0) rfl) ?_
            refine LW.pure rfl rfl (RV.assign rfl) ?_
            refine LW.pure rfl rfl (RV.assign rfl) ?_
            refine LW.nil (hK18 _ _ ?_)
            refine CW.seq fun K19 hK19 => ?_
            obtain ⟨hg1, F⟩ := gd_some F
            obtain ⟨hg2, F⟩ := gd_some F
            obtain ⟨x2, hbx2, hx2, F⟩ := ix_some F
            obtain ⟨x3, hbx3, hx3, F⟩ := ix_some F
            refine CW.draw [13] (fun _ => True) (.cons 0 1 (.cons 1 1 (.cons 2 1 (.cons 3 1 (.cons 4 1 (.cons 5 1 (.cons 6 1 (.cons 7 1 (.cons 8 1 (.cons 9 1 (.cons 10 1 (.cons 11 1 (.cons 12 0 (.cons 13 0 .nil)))))))))))))) mixed (by kernel_rfl) fun w3 E2 => ?_
            replace H := H.grow E2
            replace R0 := H.ext
            refine DW.fix rfl rfl rfl (fun _ EQ => RV.fieldAddr Tf24_1 rfl) ?_
            refine DW.fix rfl rfl rfl (fun _ EQ => RV.load1 Tk22 rfl (((H.grow EQ).blk 0 rfl).cells.off 1) rfl) ?_
            refine DW.fix rfl rfl rfl (fun _ EQ => RV.move rfl) ?_
            refine DW.fix rfl rfl rfl (fun _ EQ => RV.move rfl) ?_
            refine DW.fix rfl rfl rfl (fun _ EQ => RV.add rfl rfl hg1) ?_
            refine DW.fix rfl rfl rfl (fun _ EQ => RV.move rfl) ?_
            refine DW.fix rfl rfl rfl (fun _ EQ => RV.len Ts43 rfl) ?_
            refine DW.fix rfl rfl rfl (fun _ EQ => RV.rem rfl rfl hg2) ?_
            refine DW.fix rfl rfl rfl (fun _ EQ => RV.indexAddr Ts43 rfl rfl hbx2 (h_a1.addr_ hx2)) ?_
            refine DW.fix rfl rfl rfl (fun _ EQ => RV.load1 Tk3 rfl ((h_a1.at_ hx2).ext (R0.trans EQ)) rfl) ?_
            refine DW.fix rfl rfl rfl (fun _ EQ => RV.indexAddr Ts22 rfl rfl hbx3 (h_a0_bounds.addr_ hx3)) ?_
            refine DW.fix rfl rfl rfl (fun _ EQ => RV.loadA [.int .i64 x3.a, .int .i64 x3.b, .int .i64 x3.most] Tk26 rfl ((h_a0_bounds.at_ hx3).ext (R0.trans EQ)) rfl rfl) ?_
            refine DW.sole rfl rfl rfl (OW.alloc Tz26 fun b2 w4 N2 => ?_)
            refine ⟨fun _ => N2.ext, ModX.ext N2.ext, ?_⟩
            replace H := H.new N2 N2.blk
            replace R0 := H.ext
            refine DW.sole rfl rfl rfl (OW.store Tk26 rfl rfl (H.blk 0 rfl) (off := 0) (vs := [.int .i64 x3.a, .int .i64 x3.b, .int .i64 x3.most]) rfl rfl rfl rfl rfl fun w5 S1 => ?_)
            refine ⟨fun h => absurd h (by decide), S1.modx trivial, ?_⟩
            replace H : Hp w w5 [.blk b2 26 [.int .i64 x3.a, .int .i64 x3.b, .int .i64 x3.most], .blk b1 24 [.int .i64 a0.layers, .slice A_a0_bounds a0.bounds.length c_a0_bounds]] := H.stored 0 rfl S1
            replace R0 := H.ext
            refine DW.nil (hK19 _ _ ?_)
            refine CW.seq fun K20 hK20 => ?_
            refine CW.seq fun K21 hK21 => ?_
            obtain ⟨x4, hbx4, hx4, F⟩ := ix_some F
            refine CW.draw [] (fun _ => True) (.cons 0 1 (.cons 1 1 (.cons 2 1 (.cons 3 1 (.cons 4 1 (.cons 5 1 (.cons 6 1 (.cons 7 1 (.cons 8 1 .nil))))))))) mixed (by kernel_rfl) fun w6 E3 => ?_
            replace H := H.grow E3
            replace R0 := H.ext
            refine DW.fix rfl rfl rfl (fun _ EQ => RV.fieldAddr Tf24_1 rfl) ?_
            refine DW.fix rfl rfl rfl (fun _ EQ => RV.load1 Tk22 rfl (((H.grow EQ).blk 1 rfl).cells.off 1) rfl) ?_
            refine DW.fix rfl rfl rfl (fun _ EQ => RV.move rfl) ?_
            refine DW.fix rfl rfl rfl (fun _ EQ => RV.indexAddr Ts22 rfl rfl hbx4 (h_a0_bounds.addr_ hx4)) ?_
            refine DW.fix rfl rfl rfl (fun _ EQ => RV.fieldAddr Tf26_1 rfl) ?_
            refine DW.fix rfl rfl rfl (fun _ EQ => RV.load1 Tk3 rfl (((h_a0_bounds.at_ hx4).ext (R0.trans EQ)).off 1) rfl) ?_
            refine DW.fix rfl rfl rfl (fun _ EQ => RV.fieldAddr Tf26_0 rfl) ?_
            refine DW.fix rfl rfl rfl (fun _ EQ => RV.load1 Tk3 rfl (((H.grow EQ).blk 0 rfl).cells.off 0) rfl) ?_
            refine DW.fix rfl rfl rfl (fun _ EQ => RV.nei rfl rfl) ?_
            refine DW.nil (hK21 _ _ ?_)
            by_cases hp5 : x4.b = x3.a
            ·
              replace F := ite_y hp5 F
              have hq5 := dec_t hp5
              refine CW.condF rfl (not_f hq5) ?_
              refine CW.skip (hK20 _ _ ?_)
              obtain ⟨x5, hbx5, hx5, F⟩ := ix_some F
              obtain ⟨hg3, F⟩ := gd_some F
              refine CW.region ?_
              refine LW.pure rfl rfl (RV.move rfl) ?_
              refine LW.pure rfl rfl (RV.fieldAddr Tf24_1 rfl) ?_
              refine LW.pure rfl rfl (RV.load1 Tk22 rfl ((H.blk 1 rfl).cells.off 1) rfl) ?_
              refine LW.pure rfl rfl (RV.move rfl) ?_
              refine LW.pure rfl rfl (RV.indexAddr Ts22 rfl rfl hbx5 (h_a0_bounds.addr_ hx5)) ?_
              refine LW.pure rfl rfl (RV.fieldAddr Tf26_2 rfl) ?_
              refine LW.pure rfl rfl (RV.load1 Tk3 rfl (((h_a0_bounds.at_ hx5).ext R0).off 2) rfl) ?_
              refine LW.pure rfl rfl (RV.add rfl rfl hg3) ?_
              refine LW.pure rfl rfl (RV.assign rfl) ?_
              refine LW.nil (hK17 _ _ ?_)
              obtain ⟨hg4, F⟩ := gd_some F
              refine CW.region ?_
              refine LW.pure rfl rfl (RV.add rfl rfl hg4) ?_
              refine LW.pure rfl rfl (RV.move rfl) ?_
              refine LW.nil ?_
              replace H := H.pick (L' := [.blk b1 24 [.int .i64 a0.layers, .slice A_a0_bounds a0.bounds.length c_a0_bounds]]) [1] (by decide) rfl
              replace R0 := H.ext
              subst hrec1
              refine ⟨mk1, Nat.lt_succ_self _, _, ?_, (t8_2 + x5.most), (t36_1 + 1), F, rfl, H⟩
              exact ⟨rfl, rfl, rfl, rfl, rfl, rfl, rfl, trivial⟩
            ·
              replace F := ite_n hp5 F
              have hq5 := dec_f hp5
              refine CW.condT rfl (not_t hq5) ?_
              refine CW.seq fun K22 hK22 => ?_
              refine CW.region ?_
              refine LW.pure rfl rfl (RV.assign rfl) ?_
              refine LW.nil (hK22 _ _ ?_)
              refine CW.ret ?_
              obtain rfl := Option.some.inj F
              refine ⟨_, (ResOK.one rfl), ?_⟩
              refine ⟨(by first | rfl | simp), R0⟩
          ·
            replace F := ite_n hp4 F
            have hq4 := dec_f hp4
            refine CW.condF rfl hq4 ?_
            replace H := H.pick (L' := []) [] (by decide) rfl
            replace R0 := H.ext
            refine CW.exit (jK160 _ _ ⟨_, ?_, ⟨t8_2, F, rfl, H⟩⟩)
            exact ⟨rfl, rfl, trivial⟩
      ·
        intro K23 hK23 jK186
        refine CW.seq fun K24 hK24 => ?_
        refine CW.region ?_
        refine LW.pure rfl rfl (RV.move rfl) ?_
        refine LW.pure rfl rfl (RV.len Ts43 rfl) ?_
        refine LW.pure rfl rfl (RV.move rfl) ?_
        refine LW.nil (hK24 _ _ ?_)
        refine CW.block ?_
        refine CW.loop (fun meas ρ wl4 => ∃ (t22_1 : Int), core_CheckClash_L2 a0 a1 meas t22_1 = some res ∧ ρ = [(1, .slice A_a1 a1.length c_a1), (2, .pointer (some (⟨b1, 0, none⟩))), (4, .int .i64 0), (20, .slice A_a1 a1.length c_a1), (21, .int .i64 ((a1.length : Int))), (22, .int .i64 t22_1)] ∧ Hp w wl4 [.blk b1 24 [.int .i64 a0.layers, .slice A_a0_bounds a0.bounds.length c_a0_bounds]]) FU ⟨_, ?_, ((0 : Int)), F, rfl, H⟩ ?_
        · exact ⟨rfl, rfl, rfl, rfl, rfl, rfl, trivial⟩
        rintro mk2 _ wl4 ⟨t22_1, F, rfl, H⟩
        have R0 := H.ext
        replace F := core_CheckClash_L2_s F
        obtain ⟨mk2, rfl, F⟩ := F
        generalize hrec2 : core_CheckClash_L2 a0 a1 mk2 = rec2 at F
        unfold core_CheckClash_B2 at F
        refine CW.seq fun K25 hK25 => ?_
        refine CW.region ?_
        refine LW.pure rfl rfl (RV.lss rfl rfl) ?_
        refine LW.nil (hK25 _ _ ?_)
        refine CW.seq fun K26 hK26 => ?_
        by_cases hp6 : t22_1 < ((a1.length : Int))
        ·
          replace F := ite_y hp6 F
          have hq6 := dec_t hp6
          refine CW.condT rfl hq6 ?_
          refine CW.skip (hK26 _ _ ?_)
          refine CW.seq fun K27 hK27 => ?_
          refine CW.block ?_
          refine CW.seq fun K28 hK28 => ?_
          obtain ⟨x6, hbx6, hx6, F⟩ := ix_some F
          refine CW.region ?_
          refine LW.pure rfl rfl (RV.indexAddr Ts43 rfl rfl hbx6 (h_a1.addr_ hx6)) ?_
          refine LW.pure rfl rfl (RV.load1 Tk3 rfl ((h_a1.at_ hx6).ext R0) rfl) ?_
          refine LW.pure rfl rfl (RV.assign rfl) ?_
          refine LW.nil (hK28 _ _ ?_)
          refine CW.seq fun K29 hK29 => ?_
          obtain ⟨hg5, F⟩ := gd_some F
          obtain ⟨r1, hr1, F⟩ := bnd_some F
          refine CW.region ?_
          refine LW.pure rfl rfl (RV.move rfl) ?_
          refine LW.pure rfl rfl (RV.fieldAddr Tf24_1 rfl) ?_
          refine LW.pure rfl rfl (RV.load1 Tk22 rfl ((H.blk 0 rfl).cells.off 1) rfl) ?_
          refine LW.pure rfl rfl (RV.len Ts22 rfl) ?_
          refine LW.pure rfl rfl (RV.sub rfl rfl hg5) ?_
          refine LW.go rfl rfl (OW.call Tc70 rfl (core_within_ok (a0 := x6) (a1 := (0 : Int)) (a2 := ((a0.bounds.length : Int)) - 1) hr1) ?_)
          rintro _ w7 ⟨rfl, E4⟩
          refine ⟨_, rfl, ?_⟩
          replace H := H.grow E4
          replace R0 := H.ext
          refine LW.pure rfl rfl (RV.not rfl) ?_
          refine LW.nil (hK29 _ _ ?_)
          by_cases hp7 : r1 = true
          ·
            replace F := ite_y hp7 F
            have hq7 : r1 = true := hp7
            refine CW.condF rfl (not_f hq7) ?_
            refine CW.skip (hK27 _ _ ?_)
            obtain ⟨hg6, F⟩ := gd_some F
            refine CW.region ?_
            refine LW.pure rfl rfl (RV.add rfl rfl hg6) ?_
            refine LW.pure rfl rfl (RV.move rfl) ?_
            refine LW.nil ?_
            subst hrec2
            refine ⟨mk2, Nat.lt_succ_self _, _, ?_, (t22_1 + 1), F, rfl, H⟩
            exact ⟨rfl, rfl, rfl, rfl, rfl, rfl, trivial⟩
          ·
            replace F := ite_n hp7 F
            have hq7 : r1 = false := raw_f hp7
            refine CW.condT rfl (not_t hq7) ?_
            refine CW.seq fun K30 hK30 => ?_
            refine CW.region ?_
            refine LW.pure rfl rfl (RV.assign rfl) ?_
            refine LW.nil (hK30 _ _ ?_)
            refine CW.ret ?_
            obtain rfl := Option.some.inj F
            refine ⟨_, (ResOK.one rfl), ?_⟩
            refine ⟨(by first | rfl | simp), R0⟩
        ·
          replace F := ite_n hp6 F
          have hq6 := dec_f hp6
          refine CW.condF rfl hq6 ?_
          refine CW.exit (jK186 _ _ ⟨_, ?_, ⟨F, rfl, H⟩⟩)
          exact ⟨rfl, rfl, rfl, trivial⟩
  ·
    replace F := ite_n hp1 F
    have hq1 := dec_f hp1
    refine CW.condT rfl (not_t hq1) ?_
    refine CW.seq fun K31 hK31 => ?_
    refine CW.region ?_
    refine LW.pure rfl rfl (RV.move rfl) ?_
    refine LW.pure rfl rfl (RV.assign rfl) ?_
    refine LW.nil (hK31 _ _ ?_)
    refine CW.ret ?_
    obtain rfl := Option.some.inj F
    refine ⟨_, (ResOK.one rfl), ?_⟩
    refine ⟨(by first | rfl | simp), R0⟩

end Go.D3

set_option linter.unusedVariables false
namespace Go.D3
open Go.Tb Go.Core




def ref03_CheckClash_k1 (t79_1 : Bool) : Option Int :=
  if t79_1 = true then
    some ((7 : Int))
  else
    some ((0 : Int))
def ref03_CheckClash_k2 (a1 : List Int) (t7_1 : Int) : Option Int :=
  if ((a1.length : Int)) = 0 then
    ref03_CheckClash_k1 true
  else
    ref03_CheckClash_k1 ((decide ((0 : Int) ≤ t7_1)))
def ref03_CheckClash_B1 (a0 : Core) (a1 : List Int) (rec1 : Int → Int → Option Int) (t7_2 : Int) (t8_1 : Int) : Option Int :=
  if t8_1 < ((a1.length : Int)) then
    ix a1 t8_1 fun x1 =>
    ix a0.bounds x1 fun x2 =>
    gd (InR (t8_1 + 1)) <|
    gd ((a1.length : Int) ≠ 0 ∧ InR (Int.tmod (t8_1 + 1) ((a1.length : Int)))) <|
    ix a1 (Int.tmod (t8_1 + 1) ((a1.length : Int))) fun x3 =>
    ix a0.bounds x3 fun x4 =>
    if x2.b = x4.a then
      ix a1 t8_1 fun x5 =>
      ix a0.bounds x5 fun x6 =>
      gd (InR (t7_2 + x6.most)) <|
      gd (InR (t8_1 + 1)) <|
      rec1 ((t7_2 + x6.most)) ((t8_1 + 1))
    else
      some ((7 : Int))
  else
    ref03_CheckClash_k2 a1 t7_2
def ref03_CheckClash_L1 (a0 : Core) (a1 : List Int) : Nat → Int → Int → Option Int
  | 0, _, _ => none
  | n_ + 1, t7_2, t8_1 => ref03_CheckClash_B1 a0 a1 (ref03_CheckClash_L1 a0 a1 n_) t7_2 t8_1
theorem ref03_CheckClash_L1_s {a0 : Core} {a1 : List Int} {m_ : Nat} {t7_2 : Int} {t8_1 : Int} {res : Int} (h : ref03_CheckClash_L1 a0 a1 m_ t7_2 t8_1 = some res) : ∃ k, m_ = k + 1 ∧ ref03_CheckClash_B1 a0 a1 (ref03_CheckClash_L1 a0 a1 k) t7_2 t8_1 = some res := by
  cases m_ with
  | zero => cases h
  | succ k => exact ⟨k, rfl, h⟩
def ref03_CheckClash_k3 (a0 : Core) (a1 : List Int) : Option Int :=
  ref03_CheckClash_L1 a0 a1 FU (((0 : Int))) (((0 : Int)))
def ref03_CheckClash_B2 (a0 : Core) (a1 : List Int) (rec2 : Int → Option Int) (t6_1 : Int) : Option Int :=
  if t6_1 < ((a1.length : Int)) then
    ix a1 t6_1 fun x7 =>
    gd (InR (((a0.bounds.length : Int)) - 1)) <|
    bnd (ref03_within x7 ((0 : Int)) (((a0.bounds.length : Int)) - 1)) fun r1 =>
    if r1 = true then
      gd (InR (t6_1 + 1)) <|
      rec2 ((t6_1 + 1))
    else
      some ((4 : Int))
  else
    ref03_CheckClash_k3 a0 a1
def ref03_CheckClash_L2 (a0 : Core) (a1 : List Int) : Nat → Int → Option Int
  | 0, _ => none
  | n_ + 1, t6_1 => ref03_CheckClash_B2 a0 a1 (ref03_CheckClash_L2 a0 a1 n_) t6_1
theorem ref03_CheckClash_L2_s {a0 : Core} {a1 : List Int} {m_ : Nat} {t6_1 : Int} {res : Int} (h : ref03_CheckClash_L2 a0 a1 m_ t6_1 = some res) : ∃ k, m_ = k + 1 ∧ ref03_CheckClash_B2 a0 a1 (ref03_CheckClash_L2 a0 a1 k) t6_1 = some res := by
  cases m_ with
  | zero => cases h
  | succ k => exact ⟨k, rfl, h⟩
def ref03_CheckClash (a0 : Core) (a1 : List Int) : Option Int :=
  bnd (ref03_Validate a0) fun r2 =>
  if r2 = 0 then
    if (20 : Int) < ((a1.length : Int)) then
      some ((3 : Int))
    else
      ref03_CheckClash_L2 a0 a1 FU (((0 : Int)))
  else
    some r2
def slices_Reverse_int_B1 (rec1 : Int → Int → (List Int) → Option ((List Int))) (t2_1 : Int) (t3_1 : Int) (l1 : List Int) : Option ((List Int)) :=
  if t2_1 < t3_1 then
    ix l1 t3_1 fun x1 =>
    ix l1 t2_1 fun x2 =>
    ix l1 t2_1 fun x3 =>
    ix ((l1.set (Int.toNat t2_1) x1)) t3_1 fun x4 =>
    gd (InR (t2_1 + 1)) <|
    gd (InR (t3_1 - 1)) <|
    rec1 ((t2_1 + 1)) ((t3_1 - 1)) (((((l1.set (Int.toNat t2_1) x1)).set (Int.toNat t3_1) x2)))
  else
    some l1
def slices_Reverse_int_L1 : Nat → Int → Int → (List Int) → Option ((List Int))
  | 0, _, _, _ => none
  | n_ + 1, t2_1, t3_1, l1 => slices_Reverse_int_B1 (slices_Reverse_int_L1 n_) t2_1 t3_1 l1
theorem slices_Reverse_int_L1_s {m_ : Nat} {t2_1 : Int} {t3_1 : Int} {l1 : List Int} {res : (List Int)} (h : slices_Reverse_int_L1 m_ t2_1 t3_1 l1 = some res) : ∃ k, m_ = k + 1 ∧ slices_Reverse_int_B1 (slices_Reverse_int_L1 k) t2_1 t3_1 l1 = some res := by
  cases m_ with
  | zero => cases h
  | succ k => exact ⟨k, rfl, h⟩
def slices_Reverse_int (a0 : List Int) : Option ((List Int)) :=
  gd (InR (((a0.length : Int)) - 1)) <|
  slices_Reverse_int_L1 FU (((0 : Int))) ((((a0.length : Int)) - 1)) a0
def core_Clash_k1 (l1 : List Int) : Option ((List Int) × Bool × Int) :=
  bnd (slices_Reverse_int l1) fun r1 =>
  some (r1, true, (0 : Int))
def core_Clash_k2 (a0 : Core) (r2 : (List Int) × (List Int) × Int) (t8_1 : Int) (l2 : List Int) (rec1 : Int → (List Int) → Option ((List Int) × Bool × Int)) (t46_1 : Bool) : Option ((List Int) × Bool × Int) :=
  if t46_1 = true then
    ix r2.2.1 t8_1 fun x1 =>
    gd (l2.length + (([x1] : List Int)).length ≤ 1000000) <|
    ix r2.2.1 t8_1 fun x2 =>
    ix a0.bounds x2 fun x3 =>
    rec1 x3.a (((l2 ++ ([x1] : List Int))))
  else
    core_Clash_k1 l2
def core_Clash_B1 (a0 : Core) (r2 : (List Int) × (List Int) × Int) (t8_2 : Int) (rec1 : Int → (List Int) → Option ((List Int) × Bool × Int)) (t8_1 : Int) (l2 : List Int) : Option ((List Int) × Bool × Int) :=
  if ((l2.length : Int)) = 0 then
    core_Clash_k2 a0 r2 t8_1 l2 rec1 true
  else
    core_Clash_k2 a0 r2 t8_1 l2 rec1 ((!(decide (t8_1 = t8_2))))
def core_Clash_L1 (a0 : Core) (r2 : (List Int) × (List Int) × Int) (t8_2 : Int) : Nat → Int → (List Int) → Option ((List Int) × Bool × Int)
  | 0, _, _ => none
  | n_ + 1, t8_1, l2 => core_Clash_B1 a0 r2 t8_2 (core_Clash_L1 a0 r2 t8_2 n_) t8_1 l2
theorem core_Clash_L1_s {a0 : Core} {r2 : (List Int) × (List Int) × Int} {t8_2 : Int} {m_ : Nat} {t8_1 : Int} {l2 : List Int} {res : (List Int) × Bool × Int} (h : core_Clash_L1 a0 r2 t8_2 m_ t8_1 l2 = some res) : ∃ k, m_ = k + 1 ∧ core_Clash_B1 a0 r2 t8_2 (core_Clash_L1 a0 r2 t8_2 k) t8_1 l2 = some res := by
  cases m_ with
  | zero => cases h
  | succ k => exact ⟨k, rfl, h⟩
def core_Clash_k3 (a0 : Core) (r2 : (List Int) × (List Int) × Int) (t8_2 : Int) : Option ((List Int) × Bool × Int) :=
  core_Clash_L1 a0 r2 t8_2 FU t8_2 ((([] : List Int)))
def core_Clash_B2 (a0 : Core) (r2 : (List Int) × (List Int) × Int) (rec2 : Int → Int → Option ((List Int) × Bool × Int)) (t8_3 : Int) (t26_1 : Int) : Option ((List Int) × Bool × Int) :=
  if t26_1 < a0.layers then
    ix r2.2.1 t8_3 fun x4 =>
    ix a0.bounds x4 fun x5 =>
    gd (InR (t26_1 + 1)) <|
    rec2 x5.a ((t26_1 + 1))
  else
    core_Clash_k3 a0 r2 t8_3
def core_Clash_L2 (a0 : Core) (r2 : (List Int) × (List Int) × Int) : Nat → Int → Int → Option ((List Int) × Bool × Int)
  | 0, _, _ => none
  | n_ + 1, t8_3, t26_1 => core_Clash_B2 a0 r2 (core_Clash_L2 a0 r2 n_) t8_3 t26_1
theorem core_Clash_L2_s {a0 : Core} {r2 : (List Int) × (List Int) × Int} {m_ : Nat} {t8_3 : Int} {t26_1 : Int} {res : (List Int) × Bool × Int} (h : core_Clash_L2 a0 r2 m_ t8_3 t26_1 = some res) : ∃ k, m_ = k + 1 ∧ core_Clash_B2 a0 r2 (core_Clash_L2 a0 r2 k) t8_3 t26_1 = some res := by
  cases m_ with
  | zero => cases h
  | succ k => exact ⟨k, rfl, h⟩
def core_Clash (a0 : Core) : Option ((List Int) × Bool × Int) :=
  bnd (core_Validate a0) fun r3 =>
  if r3 = 0 then
    bnd (core_relax a0) fun r2 =>
    if r2.2.2 < 0 then
      some (([] : List Int), false, (0 : Int))
    else
      core_Clash_L2 a0 r2 FU r2.2.2 (((0 : Int)))
  else
    some (([] : List Int), false, r3)
def law03_CoreClashes_k1 (a0 : Core) (r1 : (List Int) × Bool × Int) (t54_1 : Bool) : Option Bool :=
  if t54_1 = true then
    some false
  else
    if r1.2.1 = true then
      bnd (ref03_CheckClash a0 r1.1) fun r2 =>
      if r2 = 0 then
        bnd (law03_known) fun r3 =>
        some r3
      else
        some false
    else
      if ((r1.1.length : Int)) = 0 then
        bnd (law03_known) fun r4 =>
        some r4
      else
        some false
def law03_CoreClashes_k2 (a0 : Core) (a1 : List Int) (t16_1 : Bool) : Option Bool :=
  if t16_1 = true then
    bnd (law03_known) fun r5 =>
    some r5
  else
    bnd (core_CheckClash a0 a1) fun r6 =>
    bnd (ref03_CheckClash a0 a1) fun r7 =>
    if r6 = r7 then
      bnd (core_Clash a0) fun r1 =>
      bnd (ref03_IsPossible a0) fun r8 =>
      if r1.2.2 = r8.2 then
        if r8.2 = 0 then
          if (r1.2.1 == r8.1) = true then
            law03_CoreClashes_k1 a0 r1 true
          else
            law03_CoreClashes_k1 a0 r1 false
        else
          law03_CoreClashes_k1 a0 r1 r1.2.1
      else
        law03_CoreClashes_k1 a0 r1 true
    else
      some false
def law03_CoreClashes (a0 : Core) (a1 : List Int) : Option Bool :=
  bnd (law03_Long a0) fun r9 =>
  if r9 = true then
    law03_CoreClashes_k2 a0 a1 true
  else
    law03_CoreClashes_k2 a0 a1 ((decide ((100 : Int) < ((a1.length : Int)))))
end Go.D3

