/- Lemmas and walks that the proof of this claim uses: D2m9, D2m10, D2m13, D2m14, D2m15, D2m16, D2m17, D2m18, D2n1, D2n3. -/
import Derived.Test.YtmpmomboclhjoaaTopFlows2
set_option linter.unusedVariables false
set_option linter.unusedSimpArgs false
namespace Go.D2
open Go.Tb Go.Proofs Go.RowKit
theorem Tc69 : callable Try.prog 69 = true := by kernel_rfl
theorem Tc70 : callable Try.prog 70 = true := by kernel_rfl
theorem Tk63 : tyK Try.prog 63 = some (false, 1) := by kernel_rfl
theorem Tz63 : tyZ Try.prog 63 = some (.slice none 0 0) := by kernel_rfl
set_option maxRecDepth 20000 in
set_option maxHeartbeats 1000000 in
theorem drain_Least_1_ok {cap0 : Net} {cap1 : List Left} {a0 : Int} {A_cap0_drains : Option Addr} {c_cap0_drains : Nat} {b_cap0 : Nat} {A_cap1 : Option Addr} {c_cap1 : Nat} {b_cap1 : Nat} {w : World} {res : Bool} (h_cap0_drains : Sl w A_cap0_drains c_cap0_drains 3 (cap0.drains.map encDrain)) (hc_cap0 : Cells w ⟨b_cap0, 0, none⟩ [.int .i64 cap0.nodes, .int .i64 cap0.from_, .int .i64 cap0.to_, .slice A_cap0_drains cap0.drains.length c_cap0_drains]) (h_cap1 : Sl w A_cap1 c_cap1 4 (cap1.map encLeft)) (hc_cap1 : Cells w ⟨b_cap1, 0, none⟩ [.slice A_cap1 cap1.length c_cap1]) (F : drain_Least_1 cap0 cap1 a0 = some res) : Calls Try.prog 70 #[.int .i64 a0, .pointer (some (⟨b_cap0, 0, none⟩)), .pointer (some (⟨b_cap1, 0, none⟩))] w (Rt w (.bool res)) := by
  refine calls_of_cw (args := [.int .i64 a0, .pointer (some (⟨b_cap0, 0, none⟩)), .pointer (some (⟨b_cap1, 0, none⟩))]) Try.func70 rfl rfl rfl rfl ?_
  have H := Hp.start w
  have R0 := H.ext
  unfold drain_Least_1 at F
  refine CW.seq fun K1 hK1 => ?_
  refine CW.region ?_
  refine LW.pure rfl rfl (RV.assign rfl) ?_
  refine LW.nil (hK1 _ _ ?_)
  refine CW.seq fun K2 hK2 => ?_
  by_cases hp1 : a0 = cap0.from_
  ·
    replace F := ite_y hp1 F
    have hq1 := dec_t hp1
    refine CW.region ?_
    refine LW.pure rfl rfl (RV.move rfl) ?_
    refine LW.pure rfl rfl (RV.fieldAddr Tf24_1 rfl) ?_
    refine LW.pure rfl rfl (RV.load1 Tk3 rfl ((hc_cap0.ext R0).off 1) rfl) ?_
    refine LW.pure rfl rfl (RV.eqi rfl rfl) ?_
    refine LW.pure rfl rfl (RV.move rfl) ?_
    refine LW.noB rfl rfl rfl rfl (ne_beq (v := true) hq1 rfl) ?_
    refine LW.noB rfl rfl rfl rfl (ne_beq (v := true) hq1 rfl) ?_
    refine LW.noB rfl rfl rfl rfl (ne_beq (v := true) hq1 rfl) ?_
    refine LW.noB rfl rfl rfl rfl (ne_beq (v := true) hq1 rfl) ?_
    refine LW.noB rfl rfl rfl rfl (ne_beq (v := true) hq1 rfl) ?_
    refine LW.noB rfl rfl rfl rfl (ne_beq (v := true) hq1 rfl) ?_
    refine LW.pure rfl rfl (RV.pickTB rfl hq1 rfl) ?_
    refine LW.pure rfl rfl (RV.assign rfl) ?_
    refine LW.nil (hK2 _ _ ?_)
    refine CW.ret ?_
    obtain rfl := Option.some.inj F
    refine ⟨_, (ResOK.one rfl), ?_⟩
    refine ⟨(by first | rfl | simp), R0⟩
  ·
    replace F := ite_n hp1 F
    have hq1 := dec_f hp1
    obtain ⟨r1, hr1, F⟩ := bnd_some F
    refine CW.region ?_
    refine LW.pure rfl rfl (RV.move rfl) ?_
    refine LW.pure rfl rfl (RV.fieldAddr Tf24_1 rfl) ?_
    refine LW.pure rfl rfl (RV.load1 Tk3 rfl ((hc_cap0.ext R0).off 1) rfl) ?_
    refine LW.pure rfl rfl (RV.eqi rfl rfl) ?_
    refine LW.pure rfl rfl (RV.move rfl) ?_
    refine LW.pureYB rfl rfl rfl rfl hq1 (RV.load1 Tk63 rfl (hc_cap1.ext R0) rfl) ?_
    refine LW.pureYB rfl rfl rfl rfl hq1 (RV.fieldAddr Tf24_1 rfl) ?_
    refine LW.pureYB rfl rfl rfl rfl hq1 (RV.load1 Tk3 rfl ((hc_cap0.ext R0).off 1) rfl) ?_
    refine LW.pureYB rfl rfl rfl rfl hq1 (RV.move rfl) ?_
    refine LW.yesB rfl rfl rfl rfl hq1 (OW.call Tc71 rfl (drain_search_ok (a0 := cap1) (a1 := cap0.from_) (a2 := a0) (h_cap1.ext R0) hr1) ?_)
    rintro _ w1 ⟨A3_0, c3_0, rfl, hnl3_, E1⟩
    refine ⟨_, rfl, ?_⟩
    replace H : Hp w w1 [.own A3_0 c3_0 3 1 (List.map encN r1)] := H.append E1
    replace R0 := H.ext
    refine LW.pureYB rfl rfl rfl rfl hq1 (RV.nenilL (l := r1) Ts30 rfl rfl hnl3_) ?_
    refine LW.pure rfl rfl (RV.pickFB rfl hq1 rfl) ?_
    refine LW.pure rfl rfl (RV.assign rfl) ?_
    refine LW.nil (hK2 _ _ ?_)
    refine CW.ret ?_
    obtain rfl := Option.some.inj F
    refine ⟨_, (ResOK.one rfl), ?_⟩
    refine ⟨(by first | rfl | simp), R0⟩
set_option maxRecDepth 20000 in
set_option maxHeartbeats 1000000 in
theorem drain_nodes_ok {a0 : Net} {a1 : Int → Option Bool} {A_a0_drains : Option Addr} {c_a0_drains : Nat} {f_a1 : Nat} {p_a1 : Array Value} {q_a1 : Array Value} {w : World} {res : (List Int)} (h_a0_drains : Sl w A_a0_drains c_a0_drains 3 (a0.drains.map encDrain)) (h_a1 : ∀ (x0 : Int) (r : Bool), a1 x0 = some r → ∀ w1, Ext w w1 → CallsV Try.prog f_a1 p_a1 q_a1 #[.int .i64 x0] w1 (Rt w1 (.bool r))) (F : drain_nodes a0 a1 = some res) : Calls Try.prog 69 #[.agg #[.int .i64 a0.nodes, .int .i64 a0.from_, .int .i64 a0.to_, .slice A_a0_drains a0.drains.length c_a0_drains], .func (.func f_a1) p_a1 q_a1] w (fun e w' => ∃ (A1 : Option Addr) (c1 : Nat), e = .returned (.slice A1 res.length c1) ∧ Hp w w' [.own A1 c1 3 1 (List.map encN res)]) := by
  refine calls_of_cw (args := [.agg #[.int .i64 a0.nodes, .int .i64 a0.from_, .int .i64 a0.to_, .slice A_a0_drains a0.drains.length c_a0_drains], .func (.func f_a1) p_a1 q_a1]) Try.func69 rfl rfl rfl rfl ?_
  have H := Hp.start w
  have R0 := H.ext
  unfold drain_nodes at F
  refine CW.seq fun K1 hK1 => ?_
  refine CW.region ?_
  refine LW.go rfl rfl (OW.box rfl fun b1 w2 N1 => ?_)
  replace H := H.new N1 N1.blk
  replace R0 := H.ext
  refine LW.pure rfl rfl (RV.assign rfl) ?_
  refine LW.nil (hK1 _ _ ?_)
  refine CW.seq fun K2 hK2 => ?_
  refine CW.region ?_
  refine LW.pure rfl rfl (RV.assign rfl) ?_
  refine LW.nil (hK2 _ _ ?_)
  refine CW.seqJ (fun ρ wl1 => (∃ (l1 : List Int) (Al1 : Option Addr) (cl1 : Nat), drain_nodes_k1 l1 = some res ∧ ρ = [(4, .slice none 0 0), (5, .slice Al1 l1.length cl1)] ∧ Hp w wl1 [.own Al1 cl1 3 1 (List.map encN l1)])) ?_ ?_
  ·
    rintro _ wl1 ⟨l1, Al1, cl1, F, rfl, H⟩
    have R0 := H.ext
    unfold drain_nodes_k1 at F
    refine CW.seq fun K3 hK3 => ?_
    refine CW.region ?_
    refine LW.pure rfl rfl (RV.move rfl) ?_
    refine LW.pure rfl rfl (RV.assign rfl) ?_
    refine LW.nil (hK3 _ _ ?_)
    refine CW.ret ?_
    obtain rfl := Option.some.inj F
    refine ⟨_, (ResOK.one rfl), ?_⟩
    exact ⟨Al1, cl1, (by first | rfl | (simp; done) | (simp; omega)), H⟩
  ·
    intro K4 hK4 jK74
    refine CW.seq fun K5 hK5 => ?_
    refine CW.region ?_
    refine LW.pure rfl rfl (RV.fieldAddr Tf24_0 rfl) ?_
    refine LW.pure rfl rfl (RV.load1 Tk3 rfl ((H.blk 0 rfl).cells.off 0) rfl) ?_
    refine LW.pure rfl rfl (RV.move rfl) ?_
    refine LW.nil (hK5 _ _ ?_)
    refine CW.block ?_
    replace H := H.nilOwn 3 1
    replace R0 := H.ext
    replace H := H.pick (L' := [.own none 0 3 1 (List.map encN (([] : List Int)))]) [0] (by decide) rfl
    replace R0 := H.ext
    refine CW.loop (fun meas ρ wl2 => ∃ (t9_1 : Int) (l3 : List Int) (Al3 : Option Addr) (cl3 : Nat), drain_nodes_L1 a0 a1 meas t9_1 l3 = some res ∧ ρ = [(1, .func (.func f_a1) p_a1 q_a1), (4, .slice none 0 0), (5, .slice Al3 l3.length cl3), (8, .int .i64 a0.nodes), (9, .int .i64 t9_1)] ∧ Hp w wl2 [.own Al3 cl3 3 1 (List.map encN l3)]) FU ⟨_, ?_, ((0 : Int)), (([] : List Int)), none, 0, F, rfl, H⟩ ?_
    · exact ⟨rfl, rfl, (look_slice rfl (by first | rfl | (simp; done) | (simp; omega))), rfl, rfl, trivial⟩
    rintro mk1 _ wl2 ⟨t9_1, l3, Al3, cl3, F, rfl, H⟩
    have R0 := H.ext
    replace F := drain_nodes_L1_s F
    obtain ⟨mk1, rfl, F⟩ := F
    generalize hrec1 : drain_nodes_L1 a0 a1 mk1 = rec1 at F
    unfold drain_nodes_B1 at F
    refine CW.seq fun K6 hK6 => ?_
    refine CW.region ?_
    refine LW.pure rfl rfl (RV.lss rfl rfl) ?_
    refine LW.nil (hK6 _ _ ?_)
    refine CW.seq fun K7 hK7 => ?_
    by_cases hp1 : t9_1 < a0.nodes
    ·
      replace F := ite_y hp1 F
      have hq1 := dec_t hp1
      refine CW.condT rfl hq1 ?_
      refine CW.skip (hK7 _ _ ?_)
      refine CW.seqJ (fun ρ wl3 => (∃ (l2 : List Int) (Al2 : Option Addr) (cl2 : Nat), drain_nodes_k2 t9_1 rec1 l2 = some res ∧ ρ = [(1, .func (.func f_a1) p_a1 q_a1), (4, .slice none 0 0), (5, .slice Al2 l2.length cl2), (8, .int .i64 a0.nodes), (9, .int .i64 t9_1)] ∧ Hp w wl3 [.own Al2 cl2 3 1 (List.map encN l2)])) ?_ ?_
      ·
        rintro _ wl3 ⟨l2, Al2, cl2, F, rfl, H⟩
        have R0 := H.ext
        unfold drain_nodes_k2 at F
        obtain ⟨hg1, F⟩ := gd_some F
        refine CW.region ?_
        refine LW.pure rfl rfl (RV.add rfl rfl hg1) ?_
        refine LW.pure rfl rfl (RV.move rfl) ?_
        refine LW.nil ?_
        subst hrec1
        refine ⟨mk1, Nat.lt_succ_self _, _, ?_, (t9_1 + 1), l2, Al2, cl2, F, rfl, H⟩
        exact ⟨rfl, rfl, (look_slice rfl (by first | rfl | (simp; done) | (simp; omega))), rfl, rfl, trivial⟩
      ·
        intro K8 hK8 jK94
        refine CW.block ?_
        refine CW.seq fun K9 hK9 => ?_
        refine CW.region ?_
        refine LW.pure rfl rfl (RV.move rfl) ?_
        refine LW.pure rfl rfl (RV.assign rfl) ?_
        refine LW.nil (hK9 _ _ ?_)
        refine CW.seq fun K10 hK10 => ?_
        obtain ⟨r1, hr1, F⟩ := bnd_some F
        refine CW.region ?_
        refine LW.pure rfl rfl (RV.move rfl) ?_
        refine LW.pure rfl rfl (RV.move rfl) ?_
        refine LW.go rfl rfl (OW.callV2 rfl rfl rfl (h_a1 _ _ hr1 _ R0) ?_)
        rintro _ w3 ⟨rfl, E1⟩
        refine ⟨_, rfl, ?_⟩
        replace H := H.grow E1
        replace R0 := H.ext
        refine LW.nil (hK10 _ _ ?_)
        by_cases hp2 : r1 = true
        ·
          replace F := ite_y hp2 F
          have hq2 : r1 = true := hp2
          refine CW.condT rfl hq2 ?_
          obtain ⟨hg2, F⟩ := gd_some F
          refine CW.region ?_
          refine LW.pure rfl rfl (RV.move rfl) ?_
          refine LW.pure rfl rfl (RV.move rfl) ?_
          refine LW.go rfl rfl (OW.buildSlice (e := 3) (vs := [.int .i64 t9_1]) (cs := [.int .i64 t9_1]) rfl (fun _ => by kernel_rfl) fun b2 w4 N2 => ?_)
          replace H := H.made' (k := 1) (t := 3) (enc := encN) (l := ([t9_1] : List Int)) N2 N2.blk (fun _ => rfl) rfl (by first | decide | omega | (simp; done) | (simp; omega))
          replace R0 := H.ext
          refine LW.go rfl rfl (OW.appendG (enc := encN) (l := l3) (xs := ([t9_1] : List Int)) Ts30 rfl (look_slice rfl (by first | rfl | (simp; done) | (simp; omega))) (H.own 1 rfl) (H.own 0 rfl).sl (fun _ => rfl) rfl rfl hg2 (by decide) fun A2 c2 w5 O1 M1 D1 => ?_)
          replace H : Hp w w5 [.own (some ⟨b2, 0, none⟩) ((([t9_1] : List Int)).length) 3 1 (List.map encN (([t9_1] : List Int))), .own A2 c2 3 1 (List.map encN ((l3 ++ ([t9_1] : List Int))))] := H.mod 1 rfl M1 O1 D1
          replace R0 := H.ext
          refine LW.pure rfl rfl (RV.assign rfl) ?_
          replace H := H.pick (L' := [.own A2 c2 3 1 (List.map encN ((l3 ++ ([t9_1] : List Int))))]) [1] (by decide) rfl
          replace R0 := H.ext
          refine LW.nil (jK94 _ _ ⟨_, ?_, ⟨((l3 ++ ([t9_1] : List Int))), A2, c2, F, rfl, H⟩⟩)
          exact ⟨rfl, rfl, (look_slice rfl (by first | rfl | (simp; done) | (simp; omega))), rfl, rfl, trivial⟩
        ·
          replace F := ite_n hp2 F
          have hq2 : r1 = false := raw_f hp2
          refine CW.condF rfl hq2 ?_
          refine CW.skip (jK94 _ _ ⟨_, ?_, ⟨l3, Al3, cl3, F, rfl, H⟩⟩)
          exact ⟨rfl, rfl, (look_slice rfl (by first | rfl | (simp; done) | (simp; omega))), rfl, rfl, trivial⟩
    ·
      replace F := ite_n hp1 F
      have hq1 := dec_f hp1
      refine CW.condF rfl hq1 ?_
      refine CW.exit (jK74 _ _ ⟨_, ?_, ⟨l3, Al3, cl3, F, rfl, H⟩⟩)
      exact ⟨rfl, (look_slice rfl (by first | rfl | (simp; done) | (simp; omega))), trivial⟩
set_option maxRecDepth 20000 in
set_option maxHeartbeats 1000000 in
theorem drain_Least_ok {a0 : Net} {A_a0_drains : Option Addr} {c_a0_drains : Nat} {w : World} {res : (List Int) × Int} (h_a0_drains : Sl w A_a0_drains c_a0_drains 3 (a0.drains.map encDrain)) (F : drain_Least a0 = some res) : Calls Try.prog 30 #[.agg #[.int .i64 a0.nodes, .int .i64 a0.from_, .int .i64 a0.to_, .slice A_a0_drains a0.drains.length c_a0_drains]] w (fun e w' => ∃ (A0 : Option Addr) (c0 : Nat), e = .returned (.tuple #[.slice A0 res.1.length c0, .int .i64 res.2]) ∧ Hp w w' [.own A0 c0 3 1 (List.map encN res.1)]) := by
  refine calls_of_cw (args := [.agg #[.int .i64 a0.nodes, .int .i64 a0.from_, .int .i64 a0.to_, .slice A_a0_drains a0.drains.length c_a0_drains]]) Try.func30 rfl rfl rfl rfl ?_
  have H := Hp.start w
  have R0 := H.ext
  unfold drain_Least at F
  refine CW.seq fun K1 hK1 => ?_
  refine CW.region ?_
  refine LW.go rfl rfl (OW.box rfl fun b1 w1 N1 => ?_)
  replace H := H.new N1 N1.blk
  replace R0 := H.ext
  refine LW.pure rfl rfl (RV.assign rfl) ?_
  refine LW.pure rfl rfl (RV.assign rfl) ?_
  refine LW.nil (hK1 _ _ ?_)
  refine CW.seq fun K2 hK2 => ?_
  refine CW.seq fun K3 hK3 => ?_
  obtain ⟨r1, hr1, F⟩ := bnd_some F
  refine CW.region ?_
  refine LW.pure rfl rfl (RV.loadA [.int .i64 a0.nodes, .int .i64 a0.from_, .int .i64 a0.to_, .slice A_a0_drains a0.drains.length c_a0_drains] Tk24 rfl (H.blk 0 rfl).cells rfl rfl) ?_
  refine LW.go rfl rfl (OW.call Tc26 rfl (drain_Validate_ok (a0 := a0) (h_a0_drains.ext R0) hr1) ?_)
  rintro _ w2 ⟨rfl, E1⟩
  refine ⟨_, rfl, ?_⟩
  replace H := H.grow E1
  replace R0 := H.ext
  refine LW.pure rfl rfl (RV.assign rfl) ?_
  refine LW.nil (hK3 _ _ ?_)
  refine CW.seq fun K4 hK4 => ?_
  refine CW.region ?_
  refine LW.pure rfl rfl (RV.move rfl) ?_
  refine LW.pure rfl rfl (RV.nei rfl rfl) ?_
  refine LW.nil (hK4 _ _ ?_)
  by_cases hp1 : r1 = 0
  ·
    replace F := ite_y hp1 F
    have hq1 := dec_t hp1
    refine CW.condF rfl (not_f hq1) ?_
    refine CW.skip (hK2 _ _ ?_)
    refine CW.seq fun K5 hK5 => ?_
    obtain ⟨r2, hr2, F⟩ := bnd_some F
    refine CW.region ?_
    refine LW.pure rfl rfl (RV.loadA [.int .i64 a0.nodes, .int .i64 a0.from_, .int .i64 a0.to_, .slice A_a0_drains a0.drains.length c_a0_drains] Tk24 rfl (H.blk 0 rfl).cells rfl rfl) ?_
    refine LW.go rfl rfl (OW.call Tc59 rfl (drain_run_ok (a0 := a0) (h_a0_drains.ext R0) hr2) ?_)
    rintro _ w3 ⟨A7_0, c7_0, rfl, E2⟩
    refine ⟨_, rfl, ?_⟩
    replace H : Hp w w3 [.own A7_0 c7_0 87 4 (List.map encLeft r2), .blk b1 24 [.int .i64 a0.nodes, .int .i64 a0.from_, .int .i64 a0.to_, .slice A_a0_drains a0.drains.length c_a0_drains]] := H.append E2
    replace R0 := H.ext
    refine LW.go rfl rfl (OW.alloc Tz63 fun b2 w4 N2 => ?_)
    replace H := H.new N2 N2.blk
    replace R0 := H.ext
    refine LW.go rfl rfl (OW.store Tk63 rfl rfl (H.blk 0 rfl) (off := 0) (vs := [.slice A7_0 r2.length c7_0]) rfl rfl rfl rfl rfl fun w5 S1 => ?_)
    replace H : Hp w w5 [.blk b2 63 [.slice A7_0 r2.length c7_0], .own A7_0 c7_0 87 4 (List.map encLeft r2), .blk b1 24 [.int .i64 a0.nodes, .int .i64 a0.from_, .int .i64 a0.to_, .slice A_a0_drains a0.drains.length c_a0_drains]] := H.stored 0 rfl S1
    replace R0 := H.ext
    refine LW.nil (hK5 _ _ ?_)
    refine CW.seq fun K6 hK6 => ?_
    obtain ⟨r3, hr3, F⟩ := bnd_some F
    refine CW.region ?_
    refine LW.pure rfl rfl (RV.loadA [.int .i64 a0.nodes, .int .i64 a0.from_, .int .i64 a0.to_, .slice A_a0_drains a0.drains.length c_a0_drains] Tk24 rfl (H.blk 2 rfl).cells rfl rfl) ?_
    refine LW.pure rfl rfl (RV.makeFunc (fs := []) (cs := [.pointer (some (⟨b1, 0, none⟩)), .pointer (some (⟨b2, 0, none⟩))]) rfl rfl) ?_
    refine LW.go rfl rfl (OW.call Tc69 rfl (drain_nodes_ok (a0 := a0) (a1 := (fun x0 => drain_Least_1 a0 r2 x0)) (h_a0_drains.ext R0) (fun x0 r hF w6 hE => CallsV.cap Tc70 (by simp) (drain_Least_1_ok (cap0 := a0) (cap1 := r2) (a0 := x0) ((h_a0_drains.ext R0).ext hE) ((H.blk 2 rfl).cells.ext hE) ((H.own 1 rfl).sl.ext hE) ((H.blk 0 rfl).cells.ext hE) hF)) hr3) ?_)
    rintro _ w7 ⟨A9_0, c9_0, rfl, E3⟩
    refine ⟨_, rfl, ?_⟩
    replace H : Hp w w7 [.own A9_0 c9_0 3 1 (List.map encN r3), .blk b2 63 [.slice A7_0 r2.length c7_0], .own A7_0 c7_0 87 4 (List.map encLeft r2), .blk b1 24 [.int .i64 a0.nodes, .int .i64 a0.from_, .int .i64 a0.to_, .slice A_a0_drains a0.drains.length c_a0_drains]] := H.append E3
    replace R0 := H.ext
    refine LW.pure rfl rfl (RV.assign rfl) ?_
    refine LW.pure rfl rfl (RV.assign rfl) ?_
    refine LW.nil (hK6 _ _ ?_)
    refine CW.ret ?_
    obtain rfl := Option.some.inj F
    refine ⟨_, (ResOK.two rfl rfl), ?_⟩
    replace H := H.pick (L' := [.own A9_0 c9_0 3 1 (List.map encN r3)]) [0] (by decide) rfl
    replace R0 := H.ext
    exact ⟨A9_0, c9_0, (by first | rfl | (simp; done) | (simp; omega)), H⟩
  ·
    replace F := ite_n hp1 F
    have hq1 := dec_f hp1
    refine CW.condT rfl (not_t hq1) ?_
    refine CW.seq fun K7 hK7 => ?_
    refine CW.region ?_
    refine LW.pure rfl rfl (RV.move rfl) ?_
    refine LW.pure rfl rfl (RV.assign rfl) ?_
    refine LW.pure rfl rfl (RV.assign rfl) ?_
    refine LW.nil (hK7 _ _ ?_)
    refine CW.ret ?_
    obtain rfl := Option.some.inj F
    refine ⟨_, (ResOK.two rfl rfl), ?_⟩
    replace H := H.nilOwn 3 1
    replace R0 := H.ext
    replace H := H.pick (L' := [.own none 0 3 1 (List.map encN (([] : List Int)))]) [0] (by decide) rfl
    replace R0 := H.ext
    exact ⟨none, 0, (by first | rfl | (simp; done) | (simp; omega)), H⟩
end Go.D2

set_option linter.unusedVariables false
set_option linter.unusedSimpArgs false
namespace Go.D2
open Go.Tb Go.Proofs Go.RowKit
theorem Tc30 : callable Try.prog 30 = true := by kernel_rfl
theorem Tc32 : callable Try.prog 32 = true := by kernel_rfl
theorem Tc34 : callable Try.prog 34 = true := by kernel_rfl
theorem Tc74 : callable Try.prog 74 = true := by kernel_rfl
set_option maxRecDepth 20000 in
set_option maxHeartbeats 1000000 in
theorem drain_Greatest_1_ok {cap0 : Net} {cap1 : List Left} {a0 : Int} {A_cap0_drains : Option Addr} {c_cap0_drains : Nat} {b_cap0 : Nat} {A_cap1 : Option Addr} {c_cap1 : Nat} {b_cap1 : Nat} {w : World} {res : Bool} (h_cap0_drains : Sl w A_cap0_drains c_cap0_drains 3 (cap0.drains.map encDrain)) (hc_cap0 : Cells w ⟨b_cap0, 0, none⟩ [.int .i64 cap0.nodes, .int .i64 cap0.from_, .int .i64 cap0.to_, .slice A_cap0_drains cap0.drains.length c_cap0_drains]) (h_cap1 : Sl w A_cap1 c_cap1 4 (cap1.map encLeft)) (hc_cap1 : Cells w ⟨b_cap1, 0, none⟩ [.slice A_cap1 cap1.length c_cap1]) (F : drain_Greatest_1 cap0 cap1 a0 = some res) : Calls Try.prog 74 #[.int .i64 a0, .pointer (some (⟨b_cap0, 0, none⟩)), .pointer (some (⟨b_cap1, 0, none⟩))] w (Rt w (.bool res)) := by
  refine calls_of_cw (args := [.int .i64 a0, .pointer (some (⟨b_cap0, 0, none⟩)), .pointer (some (⟨b_cap1, 0, none⟩))]) Try.func74 rfl rfl rfl rfl ?_
  have H := Hp.start w
  have R0 := H.ext
  unfold drain_Greatest_1 at F
  refine CW.seq fun K1 hK1 => ?_
  refine CW.region ?_
  refine LW.pure rfl rfl (RV.assign rfl) ?_
  refine LW.nil (hK1 _ _ ?_)
  refine CW.seq fun K2 hK2 => ?_
  by_cases hp1 : a0 = cap0.to_
  ·
    replace F := ite_y hp1 F
    have hq1 := dec_t hp1
    refine CW.region ?_
    refine LW.pure rfl rfl (RV.move rfl) ?_
    refine LW.pure rfl rfl (RV.fieldAddr Tf24_2 rfl) ?_
    refine LW.pure rfl rfl (RV.load1 Tk3 rfl ((hc_cap0.ext R0).off 2) rfl) ?_
    refine LW.pure rfl rfl (RV.nei rfl rfl) ?_
    refine LW.pure rfl rfl (RV.move rfl) ?_
    refine LW.noB rfl rfl rfl rfl (ne_beq (v := false) (not_f hq1) rfl) ?_
    refine LW.noB rfl rfl rfl rfl (ne_beq (v := false) (not_f hq1) rfl) ?_
    refine LW.noB rfl rfl rfl rfl (ne_beq (v := false) (not_f hq1) rfl) ?_
    refine LW.noB rfl rfl rfl rfl (ne_beq (v := false) (not_f hq1) rfl) ?_
    refine LW.noB rfl rfl rfl rfl (ne_beq (v := false) (not_f hq1) rfl) ?_
    refine LW.noB rfl rfl rfl rfl (ne_beq (v := false) (not_f hq1) rfl) ?_
    refine LW.pure rfl rfl (RV.pickFB rfl (not_f hq1) rfl) ?_
    refine LW.pure rfl rfl (RV.assign rfl) ?_
    refine LW.nil (hK2 _ _ ?_)
    refine CW.ret ?_
    obtain rfl := Option.some.inj F
    refine ⟨_, (ResOK.one rfl), ?_⟩
    refine ⟨(by first | rfl | simp), R0⟩
  ·
    replace F := ite_n hp1 F
    have hq1 := dec_f hp1
    obtain ⟨r1, hr1, F⟩ := bnd_some F
    refine CW.region ?_
    refine LW.pure rfl rfl (RV.move rfl) ?_
    refine LW.pure rfl rfl (RV.fieldAddr Tf24_2 rfl) ?_
    refine LW.pure rfl rfl (RV.load1 Tk3 rfl ((hc_cap0.ext R0).off 2) rfl) ?_
    refine LW.pure rfl rfl (RV.nei rfl rfl) ?_
    refine LW.pure rfl rfl (RV.move rfl) ?_
    refine LW.pureYB rfl rfl rfl rfl (not_t hq1) (RV.load1 Tk63 rfl (hc_cap1.ext R0) rfl) ?_
    refine LW.pureYB rfl rfl rfl rfl (not_t hq1) (RV.move rfl) ?_
    refine LW.pureYB rfl rfl rfl rfl (not_t hq1) (RV.fieldAddr Tf24_2 rfl) ?_
    refine LW.pureYB rfl rfl rfl rfl (not_t hq1) (RV.load1 Tk3 rfl ((hc_cap0.ext R0).off 2) rfl) ?_
    refine LW.yesB rfl rfl rfl rfl (not_t hq1) (OW.call Tc71 rfl (drain_search_ok (a0 := cap1) (a1 := a0) (a2 := cap0.to_) (h_cap1.ext R0) hr1) ?_)
    rintro _ w1 ⟨A3_0, c3_0, rfl, hnl3_, E1⟩
    refine ⟨_, rfl, ?_⟩
    replace H : Hp w w1 [.own A3_0 c3_0 3 1 (List.map encN r1)] := H.append E1
    replace R0 := H.ext
    refine LW.pureYB rfl rfl rfl rfl (not_t hq1) (RV.eqnilL (l := r1) Ts30 rfl rfl hnl3_) ?_
    refine LW.pure rfl rfl (RV.pickTB rfl (not_t hq1) rfl) ?_
    refine LW.pure rfl rfl (RV.assign rfl) ?_
    refine LW.nil (hK2 _ _ ?_)
    refine CW.ret ?_
    obtain rfl := Option.some.inj F
    refine ⟨_, (ResOK.one rfl), ?_⟩
    refine ⟨(by first | rfl | simp), R0⟩
set_option maxRecDepth 20000 in
set_option maxHeartbeats 1000000 in
theorem drain_Greatest_ok {a0 : Net} {A_a0_drains : Option Addr} {c_a0_drains : Nat} {w : World} {res : (List Int) × Int} (h_a0_drains : Sl w A_a0_drains c_a0_drains 3 (a0.drains.map encDrain)) (F : drain_Greatest a0 = some res) : Calls Try.prog 32 #[.agg #[.int .i64 a0.nodes, .int .i64 a0.from_, .int .i64 a0.to_, .slice A_a0_drains a0.drains.length c_a0_drains]] w (fun e w' => ∃ (A0 : Option Addr) (c0 : Nat), e = .returned (.tuple #[.slice A0 res.1.length c0, .int .i64 res.2]) ∧ Hp w w' [.own A0 c0 3 1 (List.map encN res.1)]) := by
  refine calls_of_cw (args := [.agg #[.int .i64 a0.nodes, .int .i64 a0.from_, .int .i64 a0.to_, .slice A_a0_drains a0.drains.length c_a0_drains]]) Try.func32 rfl rfl rfl rfl ?_
  have H := Hp.start w
  have R0 := H.ext
  unfold drain_Greatest at F
  refine CW.seq fun K1 hK1 => ?_
  refine CW.region ?_
  refine LW.go rfl rfl (OW.box rfl fun b1 w1 N1 => ?_)
  replace H := H.new N1 N1.blk
  replace R0 := H.ext
  refine LW.pure rfl rfl (RV.assign rfl) ?_
  refine LW.pure rfl rfl (RV.assign rfl) ?_
  refine LW.nil (hK1 _ _ ?_)
  refine CW.seq fun K2 hK2 => ?_
  refine CW.seq fun K3 hK3 => ?_
  obtain ⟨r1, hr1, F⟩ := bnd_some F
  refine CW.region ?_
  refine LW.pure rfl rfl (RV.loadA [.int .i64 a0.nodes, .int .i64 a0.from_, .int .i64 a0.to_, .slice A_a0_drains a0.drains.length c_a0_drains] Tk24 rfl (H.blk 0 rfl).cells rfl rfl) ?_
  refine LW.go rfl rfl (OW.call Tc26 rfl (drain_Validate_ok (a0 := a0) (h_a0_drains.ext R0) hr1) ?_)
  rintro _ w2 ⟨rfl, E1⟩
  refine ⟨_, rfl, ?_⟩
  replace H := H.grow E1
  replace R0 := H.ext
  refine LW.pure rfl rfl (RV.assign rfl) ?_
  refine LW.nil (hK3 _ _ ?_)
  refine CW.seq fun K4 hK4 => ?_
  refine CW.region ?_
  refine LW.pure rfl rfl (RV.move rfl) ?_
  refine LW.pure rfl rfl (RV.nei rfl rfl) ?_
  refine LW.nil (hK4 _ _ ?_)
  by_cases hp1 : r1 = 0
  ·
    replace F := ite_y hp1 F
    have hq1 := dec_t hp1
    refine CW.condF rfl (not_f hq1) ?_
    refine CW.skip (hK2 _ _ ?_)
    refine CW.seq fun K5 hK5 => ?_
    obtain ⟨r2, hr2, F⟩ := bnd_some F
    refine CW.region ?_
    refine LW.pure rfl rfl (RV.loadA [.int .i64 a0.nodes, .int .i64 a0.from_, .int .i64 a0.to_, .slice A_a0_drains a0.drains.length c_a0_drains] Tk24 rfl (H.blk 0 rfl).cells rfl rfl) ?_
    refine LW.go rfl rfl (OW.call Tc59 rfl (drain_run_ok (a0 := a0) (h_a0_drains.ext R0) hr2) ?_)
    rintro _ w3 ⟨A7_0, c7_0, rfl, E2⟩
    refine ⟨_, rfl, ?_⟩
    replace H : Hp w w3 [.own A7_0 c7_0 87 4 (List.map encLeft r2), .blk b1 24 [.int .i64 a0.nodes, .int .i64 a0.from_, .int .i64 a0.to_, .slice A_a0_drains a0.drains.length c_a0_drains]] := H.append E2
    replace R0 := H.ext
    refine LW.go rfl rfl (OW.alloc Tz63 fun b2 w4 N2 => ?_)
    replace H := H.new N2 N2.blk
    replace R0 := H.ext
    refine LW.go rfl rfl (OW.store Tk63 rfl rfl (H.blk 0 rfl) (off := 0) (vs := [.slice A7_0 r2.length c7_0]) rfl rfl rfl rfl rfl fun w5 S1 => ?_)
    replace H : Hp w w5 [.blk b2 63 [.slice A7_0 r2.length c7_0], .own A7_0 c7_0 87 4 (List.map encLeft r2), .blk b1 24 [.int .i64 a0.nodes, .int .i64 a0.from_, .int .i64 a0.to_, .slice A_a0_drains a0.drains.length c_a0_drains]] := H.stored 0 rfl S1
    replace R0 := H.ext
    refine LW.nil (hK5 _ _ ?_)
    refine CW.seq fun K6 hK6 => ?_
    obtain ⟨r3, hr3, F⟩ := bnd_some F
    refine CW.region ?_
    refine LW.pure rfl rfl (RV.loadA [.int .i64 a0.nodes, .int .i64 a0.from_, .int .i64 a0.to_, .slice A_a0_drains a0.drains.length c_a0_drains] Tk24 rfl (H.blk 2 rfl).cells rfl rfl) ?_
    refine LW.pure rfl rfl (RV.makeFunc (fs := []) (cs := [.pointer (some (⟨b1, 0, none⟩)), .pointer (some (⟨b2, 0, none⟩))]) rfl rfl) ?_
    refine LW.go rfl rfl (OW.call Tc69 rfl (drain_nodes_ok (a0 := a0) (a1 := (fun x0 => drain_Greatest_1 a0 r2 x0)) (h_a0_drains.ext R0) (fun x0 r hF w6 hE => CallsV.cap Tc74 (by simp) (drain_Greatest_1_ok (cap0 := a0) (cap1 := r2) (a0 := x0) ((h_a0_drains.ext R0).ext hE) ((H.blk 2 rfl).cells.ext hE) ((H.own 1 rfl).sl.ext hE) ((H.blk 0 rfl).cells.ext hE) hF)) hr3) ?_)
    rintro _ w7 ⟨A9_0, c9_0, rfl, E3⟩
    refine ⟨_, rfl, ?_⟩
    replace H : Hp w w7 [.own A9_0 c9_0 3 1 (List.map encN r3), .blk b2 63 [.slice A7_0 r2.length c7_0], .own A7_0 c7_0 87 4 (List.map encLeft r2), .blk b1 24 [.int .i64 a0.nodes, .int .i64 a0.from_, .int .i64 a0.to_, .slice A_a0_drains a0.drains.length c_a0_drains]] := H.append E3
    replace R0 := H.ext
    refine LW.pure rfl rfl (RV.assign rfl) ?_
    refine LW.pure rfl rfl (RV.assign rfl) ?_
    refine LW.nil (hK6 _ _ ?_)
    refine CW.ret ?_
    obtain rfl := Option.some.inj F
    refine ⟨_, (ResOK.two rfl rfl), ?_⟩
    replace H := H.pick (L' := [.own A9_0 c9_0 3 1 (List.map encN r3)]) [0] (by decide) rfl
    replace R0 := H.ext
    exact ⟨A9_0, c9_0, (by first | rfl | (simp; done) | (simp; omega)), H⟩
  ·
    replace F := ite_n hp1 F
    have hq1 := dec_f hp1
    refine CW.condT rfl (not_t hq1) ?_
    refine CW.seq fun K7 hK7 => ?_
    refine CW.region ?_
    refine LW.pure rfl rfl (RV.move rfl) ?_
    refine LW.pure rfl rfl (RV.assign rfl) ?_
    refine LW.pure rfl rfl (RV.assign rfl) ?_
    refine LW.nil (hK7 _ _ ?_)
    refine CW.ret ?_
    obtain rfl := Option.some.inj F
    refine ⟨_, (ResOK.two rfl rfl), ?_⟩
    replace H := H.nilOwn 3 1
    replace R0 := H.ext
    replace H := H.pick (L' := [.own none 0 3 1 (List.map encN (([] : List Int)))]) [0] (by decide) rfl
    replace R0 := H.ext
    exact ⟨none, 0, (by first | rfl | (simp; done) | (simp; omega)), H⟩
set_option maxRecDepth 20000 in
set_option maxHeartbeats 1000000 in
theorem ref01_SameInts_ok {a0 : List Int} {a1 : List Int} {A_a0 : Option Addr} {c_a0 : Nat} {A_a1 : Option Addr} {c_a1 : Nat} {w : World} {res : Bool} (h_a0 : Sl w A_a0 c_a0 1 (a0.map encN)) (h_a1 : Sl w A_a1 c_a1 1 (a1.map encN)) (F : ref01_SameInts a0 a1 = some res) : Calls Try.prog 34 #[.slice A_a0 a0.length c_a0, .slice A_a1 a1.length c_a1] w (Rt w (.bool res)) := by
  refine calls_of_cw (args := [.slice A_a0 a0.length c_a0, .slice A_a1 a1.length c_a1]) Try.func34 rfl rfl rfl rfl ?_
  have H := Hp.start w
  have R0 := H.ext
  unfold ref01_SameInts at F
  refine CW.seq fun K1 hK1 => ?_
  refine CW.region ?_
  refine LW.pure rfl rfl (RV.assign rfl) ?_
  refine LW.nil (hK1 _ _ ?_)
  refine CW.seq fun K2 hK2 => ?_
  refine CW.seq fun K3 hK3 => ?_
  refine CW.region ?_
  refine LW.pure rfl rfl (RV.move rfl) ?_
  refine LW.pure rfl rfl (RV.len Ts30 rfl) ?_
  refine LW.pure rfl rfl (RV.move rfl) ?_
  refine LW.pure rfl rfl (RV.len Ts30 rfl) ?_
  refine LW.pure rfl rfl (RV.nei rfl rfl) ?_
  refine LW.nil (hK3 _ _ ?_)
  by_cases hp1 : ((a0.length : Int)) = ((a1.length : Int))
  ·
    replace F := ite_y hp1 F
    have hq1 := dec_t hp1
    refine CW.condF rfl (not_f hq1) ?_
    refine CW.skip (hK2 _ _ ?_)
    refine CW.seqJ (fun ρ wl1 => (ref01_SameInts_k1 = some res ∧ ρ = [(4, .bool false)] ∧ Hp w wl1 [])) ?_ ?_
    ·
      rintro _ wl1 ⟨F, rfl, H⟩
      have R0 := H.ext
      unfold ref01_SameInts_k1 at F
      refine CW.seq fun K4 hK4 => ?_
      refine CW.region ?_
      refine LW.pure rfl rfl (RV.assign rfl) ?_
      refine LW.nil (hK4 _ _ ?_)
      refine CW.ret ?_
      obtain rfl := Option.some.inj F
      refine ⟨_, (ResOK.one rfl), ?_⟩
      refine ⟨(by first | rfl | simp), R0⟩
    ·
      intro K5 hK5 jK59
      refine CW.seq fun K6 hK6 => ?_
      refine CW.region ?_
      refine LW.pure rfl rfl (RV.assign rfl) ?_
      refine LW.nil (hK6 _ _ ?_)
      refine CW.block ?_
      refine CW.loop (fun meas ρ wl2 => ∃ (t5_1 : Int), ref01_SameInts_L1 a0 a1 meas t5_1 = some res ∧ ρ = [(0, .slice A_a0 a0.length c_a0), (1, .slice A_a1 a1.length c_a1), (4, .bool false), (5, .int .i64 t5_1)] ∧ Hp w wl2 []) FU ⟨_, ?_, ((0 : Int)), F, rfl, H⟩ ?_
      · exact ⟨rfl, rfl, rfl, rfl, trivial⟩
      rintro mk1 _ wl2 ⟨t5_1, F, rfl, H⟩
      have R0 := H.ext
      replace F := ref01_SameInts_L1_s F
      obtain ⟨mk1, rfl, F⟩ := F
      generalize hrec1 : ref01_SameInts_L1 a0 a1 mk1 = rec1 at F
      unfold ref01_SameInts_B1 at F
      refine CW.seq fun K7 hK7 => ?_
      refine CW.seq fun K8 hK8 => ?_
      refine CW.region ?_
      refine LW.pure rfl rfl (RV.move rfl) ?_
      refine LW.pure rfl rfl (RV.move rfl) ?_
      refine LW.pure rfl rfl (RV.len Ts30 rfl) ?_
      refine LW.pure rfl rfl (RV.lss rfl rfl) ?_
      refine LW.nil (hK8 _ _ ?_)
      by_cases hp2 : t5_1 < ((a0.length : Int))
      ·
        replace F := ite_y hp2 F
        have hq2 := dec_t hp2
        refine CW.condT rfl hq2 ?_
        refine CW.skip (hK7 _ _ ?_)
        refine CW.seq fun K9 hK9 => ?_
        refine CW.block ?_
        refine CW.seq fun K10 hK10 => ?_
        obtain ⟨x1, hbx1, hx1, F⟩ := ix_some F
        obtain ⟨x2, hbx2, hx2, F⟩ := ix_some F
        refine CW.draw [] (fun _ => True) (.cons 0 1 (.cons 1 1 (.cons 2 1 (.cons 3 1 (.cons 4 1 (.cons 5 1 (.cons 6 1 (.cons 7 1 (.cons 8 1 .nil))))))))) mixed (by kernel_rfl) fun w1 E1 => ?_
        replace H := H.grow E1
        replace R0 := H.ext
        refine DW.fix rfl rfl rfl (fun _ EQ => RV.move rfl) ?_
        refine DW.fix rfl rfl rfl (fun _ EQ => RV.move rfl) ?_
        refine DW.fix rfl rfl rfl (fun _ EQ => RV.indexAddr Ts30 rfl rfl hbx1 (h_a0.addr_ hx1)) ?_
        refine DW.fix rfl rfl rfl (fun _ EQ => RV.load1 Tk3 rfl ((h_a0.at_ hx1).ext (R0.trans EQ)) rfl) ?_
        refine DW.fix rfl rfl rfl (fun _ EQ => RV.move rfl) ?_
        refine DW.fix rfl rfl rfl (fun _ EQ => RV.move rfl) ?_
        refine DW.fix rfl rfl rfl (fun _ EQ => RV.indexAddr Ts30 rfl rfl hbx2 (h_a1.addr_ hx2)) ?_
        refine DW.fix rfl rfl rfl (fun _ EQ => RV.load1 Tk3 rfl ((h_a1.at_ hx2).ext (R0.trans EQ)) rfl) ?_
        refine DW.fix rfl rfl rfl (fun _ EQ => RV.nei rfl rfl) ?_
        refine DW.nil (hK10 _ _ ?_)
        by_cases hp3 : x1 = x2
        ·
          replace F := ite_y hp3 F
          have hq3 := dec_t hp3
          refine CW.condF rfl (not_f hq3) ?_
          refine CW.skip (hK9 _ _ ?_)
          obtain ⟨hg1, F⟩ := gd_some F
          refine CW.region ?_
          refine LW.pure rfl rfl (RV.move rfl) ?_
          refine LW.pure rfl rfl (RV.add rfl rfl hg1) ?_
          refine LW.pure rfl rfl (RV.assign rfl) ?_
          refine LW.nil ?_
          subst hrec1
          refine ⟨mk1, Nat.lt_succ_self _, _, ?_, (t5_1 + 1), F, rfl, H⟩
          exact ⟨rfl, rfl, rfl, rfl, trivial⟩
        ·
          replace F := ite_n hp3 F
          have hq3 := dec_f hp3
          refine CW.condT rfl (not_t hq3) ?_
          refine CW.seq fun K11 hK11 => ?_
          refine CW.region ?_
          refine LW.pure rfl rfl (RV.assign rfl) ?_
          refine LW.nil (hK11 _ _ ?_)
          refine CW.ret ?_
          obtain rfl := Option.some.inj F
          refine ⟨_, (ResOK.one rfl), ?_⟩
          refine ⟨(by first | rfl | simp), R0⟩
      ·
        replace F := ite_n hp2 F
        have hq2 := dec_f hp2
        refine CW.condF rfl hq2 ?_
        refine CW.exit (jK59 _ _ ⟨_, ?_, ⟨F, rfl, H⟩⟩)
        exact ⟨rfl, trivial⟩
  ·
    replace F := ite_n hp1 F
    have hq1 := dec_f hp1
    refine CW.condT rfl (not_t hq1) ?_
    refine CW.seq fun K12 hK12 => ?_
    refine CW.region ?_
    refine LW.pure rfl rfl (RV.assign rfl) ?_
    refine LW.nil (hK12 _ _ ?_)
    refine CW.ret ?_
    obtain rfl := Option.some.inj F
    refine ⟨_, (ResOK.one rfl), ?_⟩
    refine ⟨(by first | rfl | simp), R0⟩
end Go.D2

set_option linter.unusedVariables false
set_option linter.unusedSimpArgs false
namespace Go.D2
open Go.Tb Go.Proofs Go.RowKit
theorem Tc80 : callable Try.prog 80 = true := by kernel_rfl
theorem Tc96 : callable Try.prog 96 = true := by kernel_rfl
set_option maxRecDepth 20000 in
set_option maxHeartbeats 1000000 in
theorem slices_Clone_Drain_ok {a0 : List Drain} {A_a0 : Option Addr} {c_a0 : Nat} {w : World} {res : List Drain} (h_a0 : Sl w A_a0 c_a0 3 (a0.map encDrain)) (F : slices_Clone_Drain a0 = some res) : Calls Try.prog 96 #[.slice A_a0 a0.length c_a0] w (fun e w' => ∃ (A0 : Option Addr) (c0 : Nat), e = .returned (.slice A0 res.length c0) ∧ Hp w w' [.own A0 c0 52 3 (List.map encDrain res)]) := by
  cases A_a0 with
  | none =>
    obtain rfl := Sl.none_nil h_a0
    refine calls_of_cw (args := [.slice none (([] : List Drain).length) c_a0]) Try.func96 rfl rfl rfl rfl ?_
    have H := Hp.start w
    have R0 := H.ext
    unfold slices_Clone_Drain at F
    obtain ⟨_, F⟩ := gd_some F
    refine CW.seq fun K1 hK1 => ?_
    refine CW.region ?_
    refine LW.pure rfl rfl (RV.assign rfl) ?_
    refine LW.nil (hK1 _ _ ?_)
    refine CW.seq fun K2 hK2 => ?_
    refine CW.seq fun K3 hK3 => ?_
    refine CW.region ?_
    refine LW.pure rfl rfl (RV.move rfl) ?_
    refine LW.pure rfl rfl (RV.eqnil Ts22 rfl rfl) ?_
    refine LW.nil (hK3 _ _ ?_)
    refine CW.condT rfl rfl ?_
    refine CW.seq fun K4 hK4 => ?_
    refine CW.region ?_
    refine LW.pure rfl rfl (RV.assign rfl) ?_
    refine LW.nil (hK4 _ _ ?_)
    refine CW.ret ?_
    obtain rfl := Option.some.inj F
    refine ⟨_, (ResOK.one rfl), ?_⟩
    replace H := H.nilOwn 52 3
    replace R0 := H.ext
    exact ⟨none, 0, (by first | rfl | (simp; done) | (simp; omega)), H⟩
  | some ad =>
    refine calls_of_cw (args := [.slice ((some ad)) a0.length c_a0]) Try.func96 rfl rfl rfl rfl ?_
    have H := Hp.start w
    have R0 := H.ext
    unfold slices_Clone_Drain at F
    refine CW.seq fun K1 hK1 => ?_
    refine CW.region ?_
    refine LW.pure rfl rfl (RV.assign rfl) ?_
    refine LW.nil (hK1 _ _ ?_)
    refine CW.seq fun K2 hK2 => ?_
    refine CW.seq fun K3 hK3 => ?_
    refine CW.region ?_
    refine LW.pure rfl rfl (RV.move rfl) ?_
    refine LW.pure rfl rfl (RV.eqnil Ts22 rfl rfl) ?_
    refine LW.nil (hK3 _ _ ?_)
    refine CW.condF rfl rfl ?_
    refine CW.skip (hK2 _ _ ?_)
    refine CW.seq fun K4 hK4 => ?_
    obtain ⟨hg1, F⟩ := gd_some F
    refine CW.region ?_
    refine LW.go rfl rfl (OW.buildSlice (e := 52) (vs := []) (cs := []) rfl (fun _ => by kernel_rfl) fun b2 w3 N2 => ?_)
    replace H := H.made' (k := 3) (t := 52) (enc := encDrain) (l := ([] : List Drain)) N2 N2.blk (fun _ => rfl) rfl (by first | decide | omega | (simp; done) | (simp; omega))
    replace R0 := H.ext
    refine LW.pure rfl rfl (RV.move rfl) ?_
    refine LW.go rfl rfl (OW.appendG (enc := encDrain) (l := ([] : List Drain)) (xs := a0) Ts22 (look_slice rfl (by first | rfl | (simp; done) | (simp; omega))) rfl (H.own 0 rfl) (h_a0.ext R0) (fun _ => rfl) rfl rfl hg1 (by decide) fun A2 c2 w4 O2 M2 D2 => ?_)
    replace H : Hp w w4 [.own A2 c2 52 3 (List.map encDrain ((([] : List Drain) ++ a0)))] := H.mod 0 rfl M2 O2 D2
    replace R0 := H.ext
    refine LW.pure rfl rfl (RV.assign rfl) ?_
    refine LW.nil (hK4 _ _ ?_)
    refine CW.ret ?_
    obtain rfl := Option.some.inj F
    refine ⟨_, (ResOK.one rfl), ?_⟩
    exact ⟨A2, c2, (by first | rfl | (simp; done) | (simp; omega)), H⟩
set_option maxRecDepth 20000 in
set_option maxHeartbeats 1000000 in
theorem drain_changed_ok {a0 : Net} {a1 : Int} {a2 : Int} {A_a0_drains : Option Addr} {c_a0_drains : Nat} {w : World} {res : Net} (h_a0_drains : Sl w A_a0_drains c_a0_drains 3 (a0.drains.map encDrain)) (F : drain_changed a0 a1 a2 = some res) : Calls Try.prog 80 #[.agg #[.int .i64 a0.nodes, .int .i64 a0.from_, .int .i64 a0.to_, .slice A_a0_drains a0.drains.length c_a0_drains], .int .i64 a1, .int .i64 a2] w (fun e w' => ∃ (A0_drains : Option Addr) (c0_drains : Nat), e = .returned (.agg #[.int .i64 res.nodes, .int .i64 res.from_, .int .i64 res.to_, .slice A0_drains res.drains.length c0_drains]) ∧ Hp w w' [.own A0_drains c0_drains 52 3 (List.map encDrain res.drains)]) := by
  refine calls_of_cw (args := [.agg #[.int .i64 a0.nodes, .int .i64 a0.from_, .int .i64 a0.to_, .slice A_a0_drains a0.drains.length c_a0_drains], .int .i64 a1, .int .i64 a2]) Try.func80 rfl rfl rfl rfl ?_
  have H := Hp.start w
  have R0 := H.ext
  unfold drain_changed at F
  refine CW.seq fun K1 hK1 => ?_
  refine CW.region ?_
  refine LW.go rfl rfl (OW.box rfl fun b1 w1 N1 => ?_)
  replace H := H.new N1 N1.blk
  replace R0 := H.ext
  refine LW.go rfl rfl (OW.alloc Tz24 fun b2 w2 N2 => ?_)
  replace H := H.new N2 N2.blk
  replace R0 := H.ext
  refine LW.nil (hK1 _ _ ?_)
  refine CW.seq fun K2 hK2 => ?_
  obtain ⟨r1, hr1, F⟩ := bnd_some F
  refine CW.region ?_
  refine LW.pure rfl rfl (RV.fieldAddr Tf24_3 rfl) ?_
  refine LW.pure rfl rfl (RV.load1 Tk22 rfl ((H.blk 1 rfl).cells.off 3) rfl) ?_
  refine LW.go rfl rfl (OW.call Tc96 rfl (slices_Clone_Drain_ok (a0 := a0.drains) (h_a0_drains.ext R0) hr1) ?_)
  rintro _ w3 ⟨A3_0, c3_0, rfl, E1⟩
  refine ⟨_, rfl, ?_⟩
  replace H : Hp w w3 [.own A3_0 c3_0 52 3 (List.map encDrain r1), .blk b2 24 [.int .i64 0, .int .i64 0, .int .i64 0, .slice none 0 0], .blk b1 24 [.int .i64 a0.nodes, .int .i64 a0.from_, .int .i64 a0.to_, .slice A_a0_drains a0.drains.length c_a0_drains]] := H.append E1
  replace R0 := H.ext
  refine LW.pure rfl rfl (RV.fieldAddr Tf24_3 rfl) ?_
  refine LW.go rfl rfl (OW.store Tk22 rfl rfl (H.blk 2 rfl) (off := 3) (vs := [.slice A3_0 r1.length c3_0]) rfl rfl rfl rfl rfl fun w4 S1 => ?_)
  replace H : Hp w w4 [.own A3_0 c3_0 52 3 (List.map encDrain r1), .blk b2 24 [.int .i64 0, .int .i64 0, .int .i64 0, .slice none 0 0], .blk b1 24 [.int .i64 a0.nodes, .int .i64 a0.from_, .int .i64 a0.to_, .slice A3_0 r1.length c3_0]] := H.stored 2 rfl S1
  replace R0 := H.ext
  refine LW.nil (hK2 _ _ ?_)
  refine CW.seq fun K3 hK3 => ?_
  obtain ⟨x1, hbx1, hx1, F⟩ := ix_some F
  refine CW.region ?_
  refine LW.pure rfl rfl (RV.fieldAddr Tf24_3 rfl) ?_
  refine LW.pure rfl rfl (RV.load1 Tk22 rfl ((H.blk 2 rfl).cells.off 3) rfl) ?_
  refine LW.pure rfl rfl (RV.move rfl) ?_
  refine LW.pure rfl rfl (RV.move rfl) ?_
  refine LW.pure rfl rfl (RV.indexAddr Ts22 rfl rfl hbx1 ((H.own 0 rfl).sl.addr_ hx1)) ?_
  refine LW.pure rfl rfl (RV.fieldAddr Tf52_2 rfl) ?_
  refine LW.go rfl rfl (OW.storeO (enc := encDrain) (vs := [.int .i64 a2]) 2 ((⟨x1.from_, x1.to_, a2⟩ : Drain)) Tk3 rfl rfl (H.own 0 rfl) (fun _ => rfl) rfl hx1 rfl rfl (by decide) rfl rfl fun w5 M1 O1 => ?_)
  replace H : Hp w w5 [.own A3_0 c3_0 52 3 (List.map encDrain ((r1.set (Int.toNat a1) ((⟨x1.from_, x1.to_, a2⟩ : Drain))))), .blk b2 24 [.int .i64 0, .int .i64 0, .int .i64 0, .slice none 0 0], .blk b1 24 [.int .i64 a0.nodes, .int .i64 a0.from_, .int .i64 a0.to_, .slice A3_0 r1.length c3_0]] := H.mod 0 rfl M1 O1 (.inl rfl)
  replace R0 := H.ext
  refine LW.nil (hK3 _ _ ?_)
  refine CW.seq fun K4 hK4 => ?_
  refine CW.region ?_
  refine LW.pure rfl rfl (RV.loadA [.int .i64 a0.nodes, .int .i64 a0.from_, .int .i64 a0.to_, .slice A3_0 r1.length c3_0] Tk24 rfl (H.blk 2 rfl).cells rfl rfl) ?_
  refine LW.go rfl rfl (OW.store Tk24 rfl rfl (H.blk 1 rfl) (off := 0) (vs := [.int .i64 a0.nodes, .int .i64 a0.from_, .int .i64 a0.to_, .slice A3_0 r1.length c3_0]) rfl rfl rfl rfl rfl fun w6 S2 => ?_)
  replace H : Hp w w6 [.own A3_0 c3_0 52 3 (List.map encDrain ((r1.set (Int.toNat a1) ((⟨x1.from_, x1.to_, a2⟩ : Drain))))), .blk b2 24 [.int .i64 a0.nodes, .int .i64 a0.from_, .int .i64 a0.to_, .slice A3_0 r1.length c3_0], .blk b1 24 [.int .i64 a0.nodes, .int .i64 a0.from_, .int .i64 a0.to_, .slice A3_0 r1.length c3_0]] := H.stored 1 rfl S2
  replace R0 := H.ext
  refine LW.nil (hK4 _ _ ?_)
  refine CW.ret ?_
  obtain rfl := Option.some.inj F
  refine ⟨_, (ResOK.cell1 ⟨_, rfl, run_loadVar_agg Tk24 (H.blk 1 rfl).cells (us := [.int .i64 a0.nodes, .int .i64 a0.from_, .int .i64 a0.to_, .slice A3_0 r1.length c3_0]) rfl rfl⟩), ?_⟩
  replace H := H.pick (L' := [.own A3_0 c3_0 52 3 (List.map encDrain ((r1.set (Int.toNat a1) ((⟨x1.from_, x1.to_, a2⟩ : Drain)))))]) [0] (by decide) rfl
  replace R0 := H.ext
  exact ⟨A3_0, c3_0, (by first | rfl | (simp; done) | (simp; omega)), H⟩
set_option maxRecDepth 20000 in
set_option maxHeartbeats 1000000 in
theorem drain_Widen_ok {a0 : Net} {a1 : Int} {a2 : Int} {A_a0_drains : Option Addr} {c_a0_drains : Nat} {w : World} {res : Net × Int} (h_a0_drains : Sl w A_a0_drains c_a0_drains 3 (a0.drains.map encDrain)) (F : drain_Widen a0 a1 a2 = some res) : Calls Try.prog 41 #[.agg #[.int .i64 a0.nodes, .int .i64 a0.from_, .int .i64 a0.to_, .slice A_a0_drains a0.drains.length c_a0_drains], .int .i64 a1, .int .i64 a2] w (fun e w' => ∃ (A0_drains : Option Addr) (c0_drains : Nat), e = .returned (.tuple #[.agg #[.int .i64 res.1.nodes, .int .i64 res.1.from_, .int .i64 res.1.to_, .slice A0_drains res.1.drains.length c0_drains], .int .i64 res.2]) ∧ Hp w w' [.own A0_drains c0_drains 52 3 (List.map encDrain res.1.drains)]) := by
  refine calls_of_cw (args := [.agg #[.int .i64 a0.nodes, .int .i64 a0.from_, .int .i64 a0.to_, .slice A_a0_drains a0.drains.length c_a0_drains], .int .i64 a1, .int .i64 a2]) Try.func41 rfl rfl rfl rfl ?_
  have H := Hp.start w
  have R0 := H.ext
  unfold drain_Widen at F
  refine CW.seq fun K1 hK1 => ?_
  refine CW.region ?_
  refine LW.go rfl rfl (OW.box rfl fun b1 w1 N1 => ?_)
  replace H := H.new N1 N1.blk
  replace R0 := H.ext
  refine LW.go rfl rfl (OW.alloc Tz24 fun b2 w2 N2 => ?_)
  replace H := H.new N2 N2.blk
  replace R0 := H.ext
  refine LW.pure rfl rfl (RV.assign rfl) ?_
  refine LW.nil (hK1 _ _ ?_)
  refine CW.seq fun K2 hK2 => ?_
  refine CW.seq fun K3 hK3 => ?_
  obtain ⟨r2, hr2, F⟩ := bnd_some F
  refine CW.region ?_
  refine LW.pure rfl rfl (RV.loadA [.int .i64 a0.nodes, .int .i64 a0.from_, .int .i64 a0.to_, .slice A_a0_drains a0.drains.length c_a0_drains] Tk24 rfl (H.blk 1 rfl).cells rfl rfl) ?_
  refine LW.go rfl rfl (OW.call Tc26 rfl (drain_Validate_ok (a0 := a0) (h_a0_drains.ext R0) hr2) ?_)
  rintro _ w3 ⟨rfl, E1⟩
  refine ⟨_, rfl, ?_⟩
  replace H := H.grow E1
  replace R0 := H.ext
  refine LW.pure rfl rfl (RV.assign rfl) ?_
  refine LW.nil (hK3 _ _ ?_)
  refine CW.seq fun K4 hK4 => ?_
  refine CW.region ?_
  refine LW.pure rfl rfl (RV.move rfl) ?_
  refine LW.pure rfl rfl (RV.nei rfl rfl) ?_
  refine LW.nil (hK4 _ _ ?_)
  by_cases hp1 : r2 = 0
  ·
    replace F := ite_y hp1 F
    have hq1 := dec_t hp1
    refine CW.condF rfl (not_f hq1) ?_
    refine CW.skip (hK2 _ _ ?_)
    refine CW.seq fun K5 hK5 => ?_
    refine CW.seq fun K6 hK6 => ?_
    obtain ⟨hg1, F⟩ := gd_some F
    obtain ⟨r3, hr3, F⟩ := bnd_some F
    refine CW.region ?_
    refine LW.pure rfl rfl (RV.move rfl) ?_
    refine LW.pure rfl rfl (RV.fieldAddr Tf24_3 rfl) ?_
    refine LW.pure rfl rfl (RV.load1 Tk22 rfl ((H.blk 1 rfl).cells.off 3) rfl) ?_
    refine LW.pure rfl rfl (RV.len Ts22 rfl) ?_
    refine LW.pure rfl rfl (RV.sub rfl rfl hg1) ?_
    refine LW.go rfl rfl (OW.call Tc62 rfl (drain_from_ok (a0 := a1) (a1 := (0 : Int)) (a2 := ((a0.drains.length : Int)) - 1) hr3) ?_)
    rintro _ w4 ⟨rfl, E2⟩
    refine ⟨_, rfl, ?_⟩
    replace H := H.grow E2
    replace R0 := H.ext
    refine LW.pure rfl rfl (RV.not rfl) ?_
    refine LW.nil (hK6 _ _ ?_)
    by_cases hp2 : r3 = true
    ·
      replace F := ite_y hp2 F
      have hq2 : r3 = true := hp2
      refine CW.condF rfl (not_f hq2) ?_
      refine CW.skip (hK5 _ _ ?_)
      refine CW.seq fun K7 hK7 => ?_
      refine CW.seqJ (fun ρ wl1 => (∃ (t37_1 : Bool), drain_Widen_k1 a0 a1 a2 t37_1 = some res ∧ ρ = [(1, .int .i64 a1), (2, .int .i64 a2), (3, .pointer (some (⟨b1, 0, none⟩))), (6, .pointer (some (⟨b2, 0, none⟩))), (7, .int .i64 0), (37, .bool t37_1)] ∧ Hp w wl1 [.blk b1 24 [.int .i64 a0.nodes, .int .i64 a0.from_, .int .i64 a0.to_, .slice A_a0_drains a0.drains.length c_a0_drains], .blk b2 24 [.int .i64 0, .int .i64 0, .int .i64 0, .slice none 0 0]])) ?_ ?_
      ·
        rintro _ wl1 ⟨t37_1, F, rfl, H⟩
        have R0 := H.ext
        unfold drain_Widen_k1 at F
        by_cases hp3 : t37_1 = true
        ·
          replace F := ite_y hp3 F
          have hq3 : t37_1 = true := hp3
          refine CW.condT rfl hq3 ?_
          refine CW.seq fun K8 hK8 => ?_
          refine CW.region ?_
          refine LW.pure rfl rfl (RV.build (vs := []) (cs := [.int .i64 0, .int .i64 0, .int .i64 0, .slice none 0 0]) rfl (fun _ => by kernel_rfl)) ?_
          refine LW.go rfl rfl (OW.store Tk24 rfl rfl (H.blk 1 rfl) (off := 0) (vs := [.int .i64 0, .int .i64 0, .int .i64 0, .slice none 0 0]) rfl rfl rfl rfl rfl fun w5 S1 => ?_)
          replace H : Hp w w5 [.blk b1 24 [.int .i64 a0.nodes, .int .i64 a0.from_, .int .i64 a0.to_, .slice A_a0_drains a0.drains.length c_a0_drains], .blk b2 24 [.int .i64 0, .int .i64 0, .int .i64 0, .slice none 0 0]] := H.stored 1 rfl S1
          replace R0 := H.ext
          refine LW.pure rfl rfl (RV.assign rfl) ?_
          refine LW.nil (hK8 _ _ ?_)
          refine CW.ret ?_
          obtain rfl := Option.some.inj F
          refine ⟨_, (ResOK.two ⟨_, rfl, run_loadVar_agg Tk24 (H.blk 1 rfl).cells (us := [.int .i64 0, .int .i64 0, .int .i64 0, .slice none 0 0]) rfl rfl⟩ rfl), ?_⟩
          replace H := H.nilOwn 52 3
          replace R0 := H.ext
          replace H := H.pick (L' := [.own none 0 52 3 (List.map encDrain (([] : List Drain)))]) [0] (by decide) rfl
          replace R0 := H.ext
          exact ⟨none, 0, (by first | rfl | (simp; done) | (simp; omega)), H⟩
        ·
          replace F := ite_n hp3 F
          have hq3 : t37_1 = false := raw_f hp3
          refine CW.condF rfl hq3 ?_
          refine CW.skip (hK7 _ _ ?_)
          refine CW.seq fun K9 hK9 => ?_
          obtain ⟨x1, hbx1, hx1, F⟩ := ix_some F
          obtain ⟨hg2, F⟩ := gd_some F
          obtain ⟨r1, hr1, F⟩ := bnd_some F
          refine CW.draw [11] (fun _ => True) (.cons 0 1 (.cons 1 1 (.cons 2 1 (.cons 3 1 (.cons 4 1 (.cons 5 1 (.cons 6 1 (.cons 7 1 (.cons 8 1 (.cons 9 1 (.cons 10 0 (.cons 11 0 (.cons 12 2 .nil))))))))))))) mixed (by kernel_rfl) fun w6 E3 => ?_
          replace H := H.grow E3
          replace R0 := H.ext
          refine DW.fix rfl rfl rfl (fun _ EQ => RV.loadA [.int .i64 a0.nodes, .int .i64 a0.from_, .int .i64 a0.to_, .slice A_a0_drains a0.drains.length c_a0_drains] Tk24 rfl ((H.grow EQ).blk 0 rfl).cells rfl rfl) ?_
          refine DW.fix rfl rfl rfl (fun _ EQ => RV.move rfl) ?_
          refine DW.fix rfl rfl rfl (fun _ EQ => RV.fieldAddr Tf24_3 rfl) ?_
          refine DW.fix rfl rfl rfl (fun _ EQ => RV.load1 Tk22 rfl (((H.grow EQ).blk 0 rfl).cells.off 3) rfl) ?_
          refine DW.fix rfl rfl rfl (fun _ EQ => RV.move rfl) ?_
          refine DW.fix rfl rfl rfl (fun _ EQ => RV.indexAddr Ts22 rfl rfl hbx1 (h_a0_drains.addr_ hx1)) ?_
          refine DW.fix rfl rfl rfl (fun _ EQ => RV.fieldAddr Tf52_2 rfl) ?_
          refine DW.fix rfl rfl rfl (fun _ EQ => RV.load1 Tk3 rfl (((h_a0_drains.at_ hx1).ext (R0.trans EQ)).off 2) rfl) ?_
          refine DW.fix rfl rfl rfl (fun _ EQ => RV.move rfl) ?_
          refine DW.fix rfl rfl rfl (fun _ EQ => RV.add rfl rfl hg2) ?_
          refine DW.sole rfl rfl rfl (OW.call Tc80 rfl (drain_changed_ok (a0 := a0) (a1 := a1) (a2 := x1.width + a2) (h_a0_drains.ext R0) hr1) ?_)
          rintro _ w7 ⟨A15_0_drains, c15_0_drains, rfl, E4⟩
          refine ⟨_, rfl, fun _ => E4.ext, ModX.ext E4.ext, ?_⟩
          replace H : Hp w w7 [.own A15_0_drains c15_0_drains 52 3 (List.map encDrain r1.drains), .blk b1 24 [.int .i64 a0.nodes, .int .i64 a0.from_, .int .i64 a0.to_, .slice A_a0_drains a0.drains.length c_a0_drains], .blk b2 24 [.int .i64 0, .int .i64 0, .int .i64 0, .slice none 0 0]] := H.append E4
          replace R0 := H.ext
          refine DW.sole rfl rfl rfl (OW.store Tk24 rfl rfl (H.blk 2 rfl) (off := 0) (vs := [.int .i64 r1.nodes, .int .i64 r1.from_, .int .i64 r1.to_, .slice A15_0_drains r1.drains.length c15_0_drains]) rfl rfl rfl rfl rfl fun w8 S2 => ?_)
          refine ⟨fun h => absurd h (by decide), S2.modx trivial, ?_⟩
          replace H : Hp w w8 [.own A15_0_drains c15_0_drains 52 3 (List.map encDrain r1.drains), .blk b1 24 [.int .i64 a0.nodes, .int .i64 a0.from_, .int .i64 a0.to_, .slice A_a0_drains a0.drains.length c_a0_drains], .blk b2 24 [.int .i64 r1.nodes, .int .i64 r1.from_, .int .i64 r1.to_, .slice A15_0_drains r1.drains.length c15_0_drains]] := H.stored 2 rfl S2
          replace R0 := H.ext
          refine DW.thru rfl rfl rfl (fun _ EQ => RV.assign rfl) ?_
          refine DW.nil (hK9 _ _ ?_)
          refine CW.ret ?_
          obtain rfl := Option.some.inj F
          refine ⟨_, (ResOK.two ⟨_, rfl, run_loadVar_agg Tk24 (H.blk 2 rfl).cells (us := [.int .i64 r1.nodes, .int .i64 r1.from_, .int .i64 r1.to_, .slice A15_0_drains r1.drains.length c15_0_drains]) rfl rfl⟩ rfl), ?_⟩
          replace H := H.pick (L' := [.own A15_0_drains c15_0_drains 52 3 (List.map encDrain r1.drains)]) [0] (by decide) rfl
          replace R0 := H.ext
          exact ⟨A15_0_drains, c15_0_drains, (by first | rfl | (simp; done) | (simp; omega)), H⟩
      ·
        intro K10 hK10 jK22
        obtain ⟨r4, hr4, F⟩ := bnd_some F
        by_cases hp4 : r4 = true
        ·
          replace F := ite_y hp4 F
          have hq4 : r4 = true := hp4
          obtain ⟨x2, hbx2, hx2, F⟩ := ix_some F
          obtain ⟨hg3, F⟩ := gd_some F
          obtain ⟨r5, hr5, F⟩ := bnd_some F
          refine CW.region ?_
          refine LW.pure rfl rfl (RV.move rfl) ?_
          refine LW.go rfl rfl (OW.call Tc62 rfl (drain_from_ok (a0 := a2) (a1 := (-20 : Int)) (a2 := (20 : Int)) hr4) ?_)
          rintro _ w9 ⟨rfl, E5⟩
          refine ⟨_, rfl, ?_⟩
          replace H := H.grow E5
          replace R0 := H.ext
          refine LW.pure rfl rfl (RV.not rfl) ?_
          refine LW.pure rfl rfl (RV.move rfl) ?_
          refine LW.pureYB rfl rfl rfl rfl (not_f hq4) (RV.fieldAddr Tf24_3 rfl) ?_
          refine LW.pureYB rfl rfl rfl rfl (not_f hq4) (RV.load1 Tk22 rfl ((H.blk 1 rfl).cells.off 3) rfl) ?_
          refine LW.pureYB rfl rfl rfl rfl (not_f hq4) (RV.move rfl) ?_
          refine LW.pureYB rfl rfl rfl rfl (not_f hq4) (RV.indexAddr Ts22 rfl rfl hbx2 (h_a0_drains.addr_ hx2)) ?_
          refine LW.pureYB rfl rfl rfl rfl (not_f hq4) (RV.fieldAddr Tf52_2 rfl) ?_
          refine LW.pureYB rfl rfl rfl rfl (not_f hq4) (RV.load1 Tk3 rfl (((h_a0_drains.at_ hx2).ext R0).off 2) rfl) ?_
          refine LW.pureYB rfl rfl rfl rfl (not_f hq4) (RV.move rfl) ?_
          refine LW.pureYB rfl rfl rfl rfl (not_f hq4) (RV.add rfl rfl hg3) ?_
          refine LW.yesB rfl rfl rfl rfl (not_f hq4) (OW.call Tc62 rfl (drain_from_ok (a0 := x2.width + a2) (a1 := (0 : Int)) (a2 := (20 : Int)) hr5) ?_)
          rintro _ w10 ⟨rfl, E6⟩
          refine ⟨_, rfl, ?_⟩
          replace H := H.grow E6
          replace R0 := H.ext
          refine LW.pureYB rfl rfl rfl rfl (not_f hq4) (RV.not rfl) ?_
          refine LW.pure rfl rfl (RV.pickFB rfl (not_f hq4) rfl) ?_
          replace H := H.pick (L' := [.blk b1 24 [.int .i64 a0.nodes, .int .i64 a0.from_, .int .i64 a0.to_, .slice A_a0_drains a0.drains.length c_a0_drains], .blk b2 24 [.int .i64 0, .int .i64 0, .int .i64 0, .slice none 0 0]]) [1, 0] (by decide) rfl
          replace R0 := H.ext
          refine LW.nil (jK22 _ _ ⟨_, ?_, ⟨(!r5), F, rfl, H⟩⟩)
          exact ⟨rfl, rfl, rfl, rfl, rfl, rfl, trivial⟩
        ·
          replace F := ite_n hp4 F
          have hq4 : r4 = false := raw_f hp4
          refine CW.region ?_
          refine LW.pure rfl rfl (RV.move rfl) ?_
          refine LW.go rfl rfl (OW.call Tc62 rfl (drain_from_ok (a0 := a2) (a1 := (-20 : Int)) (a2 := (20 : Int)) hr4) ?_)
          rintro _ w11 ⟨rfl, E7⟩
          refine ⟨_, rfl, ?_⟩
          replace H := H.grow E7
          replace R0 := H.ext
          refine LW.pure rfl rfl (RV.not rfl) ?_
          refine LW.pure rfl rfl (RV.move rfl) ?_
          refine LW.noB rfl rfl rfl rfl (ne_beq (v := true) (not_t hq4) rfl) ?_
          refine LW.noB rfl rfl rfl rfl (ne_beq (v := true) (not_t hq4) rfl) ?_
          refine LW.noB rfl rfl rfl rfl (ne_beq (v := true) (not_t hq4) rfl) ?_
          refine LW.noB rfl rfl rfl rfl (ne_beq (v := true) (not_t hq4) rfl) ?_
          refine LW.noB rfl rfl rfl rfl (ne_beq (v := true) (not_t hq4) rfl) ?_
          refine LW.noB rfl rfl rfl rfl (ne_beq (v := true) (not_t hq4) rfl) ?_
          refine LW.noB rfl rfl rfl rfl (ne_beq (v := true) (not_t hq4) rfl) ?_
          refine LW.noB rfl rfl rfl rfl (ne_beq (v := true) (not_t hq4) rfl) ?_
          refine LW.noB rfl rfl rfl rfl (ne_beq (v := true) (not_t hq4) rfl) ?_
          refine LW.noB rfl rfl rfl rfl (ne_beq (v := true) (not_t hq4) rfl) ?_
          refine LW.pure rfl rfl (RV.pickTB rfl (not_t hq4) rfl) ?_
          replace H := H.pick (L' := [.blk b1 24 [.int .i64 a0.nodes, .int .i64 a0.from_, .int .i64 a0.to_, .slice A_a0_drains a0.drains.length c_a0_drains], .blk b2 24 [.int .i64 0, .int .i64 0, .int .i64 0, .slice none 0 0]]) [1, 0] (by decide) rfl
          replace R0 := H.ext
          refine LW.nil (jK22 _ _ ⟨_, ?_, ⟨true, F, rfl, H⟩⟩)
          exact ⟨rfl, rfl, rfl, rfl, rfl, rfl, trivial⟩
    ·
      replace F := ite_n hp2 F
      have hq2 : r3 = false := raw_f hp2
      refine CW.condT rfl (not_t hq2) ?_
      refine CW.seq fun K11 hK11 => ?_
      refine CW.region ?_
      refine LW.pure rfl rfl (RV.build (vs := []) (cs := [.int .i64 0, .int .i64 0, .int .i64 0, .slice none 0 0]) rfl (fun _ => by kernel_rfl)) ?_
      refine LW.go rfl rfl (OW.store Tk24 rfl rfl (H.blk 0 rfl) (off := 0) (vs := [.int .i64 0, .int .i64 0, .int .i64 0, .slice none 0 0]) rfl rfl rfl rfl rfl fun w12 S3 => ?_)
      replace H : Hp w w12 [.blk b2 24 [.int .i64 0, .int .i64 0, .int .i64 0, .slice none 0 0], .blk b1 24 [.int .i64 a0.nodes, .int .i64 a0.from_, .int .i64 a0.to_, .slice A_a0_drains a0.drains.length c_a0_drains]] := H.stored 0 rfl S3
      replace R0 := H.ext
      refine LW.pure rfl rfl (RV.assign rfl) ?_
      refine LW.nil (hK11 _ _ ?_)
      refine CW.ret ?_
      obtain rfl := Option.some.inj F
      refine ⟨_, (ResOK.two ⟨_, rfl, run_loadVar_agg Tk24 (H.blk 0 rfl).cells (us := [.int .i64 0, .int .i64 0, .int .i64 0, .slice none 0 0]) rfl rfl⟩ rfl), ?_⟩
      replace H := H.nilOwn 52 3
      replace R0 := H.ext
      replace H := H.pick (L' := [.own none 0 52 3 (List.map encDrain (([] : List Drain)))]) [0] (by decide) rfl
      replace R0 := H.ext
      exact ⟨none, 0, (by first | rfl | (simp; done) | (simp; omega)), H⟩
  ·
    replace F := ite_n hp1 F
    have hq1 := dec_f hp1
    refine CW.condT rfl (not_t hq1) ?_
    refine CW.seq fun K12 hK12 => ?_
    refine CW.region ?_
    refine LW.pure rfl rfl (RV.build (vs := []) (cs := [.int .i64 0, .int .i64 0, .int .i64 0, .slice none 0 0]) rfl (fun _ => by kernel_rfl)) ?_
    refine LW.pure rfl rfl (RV.move rfl) ?_
    refine LW.go rfl rfl (OW.store Tk24 rfl rfl (H.blk 0 rfl) (off := 0) (vs := [.int .i64 0, .int .i64 0, .int .i64 0, .slice none 0 0]) rfl rfl rfl rfl rfl fun w13 S4 => ?_)
    replace H : Hp w w13 [.blk b2 24 [.int .i64 0, .int .i64 0, .int .i64 0, .slice none 0 0], .blk b1 24 [.int .i64 a0.nodes, .int .i64 a0.from_, .int .i64 a0.to_, .slice A_a0_drains a0.drains.length c_a0_drains]] := H.stored 0 rfl S4
    replace R0 := H.ext
    refine LW.pure rfl rfl (RV.assign rfl) ?_
    refine LW.nil (hK12 _ _ ?_)
    refine CW.ret ?_
    obtain rfl := Option.some.inj F
    refine ⟨_, (ResOK.two ⟨_, rfl, run_loadVar_agg Tk24 (H.blk 0 rfl).cells (us := [.int .i64 0, .int .i64 0, .int .i64 0, .slice none 0 0]) rfl rfl⟩ rfl), ?_⟩
    replace H := H.nilOwn 52 3
    replace R0 := H.ext
    replace H := H.pick (L' := [.own none 0 52 3 (List.map encDrain (([] : List Drain)))]) [0] (by decide) rfl
    replace R0 := H.ext
    exact ⟨none, 0, (by first | rfl | (simp; done) | (simp; omega)), H⟩
end Go.D2

set_option linter.unusedVariables false
set_option linter.unusedSimpArgs false
namespace Go.D2
open Go.Tb Go.Proofs Go.RowKit
theorem Tb4 : Try.prog.underlying 4 = some .bool := by kernel_rfl
theorem Tc41 : callable Try.prog 41 = true := by kernel_rfl
theorem Tc82 : callable Try.prog 82 = true := by kernel_rfl
theorem Tz3 : tyZ Try.prog 3 = some (.int .i64 0) := by kernel_rfl
set_option maxRecDepth 20000 in
set_option maxHeartbeats 1000000 in
theorem drain_those_ok {a0 : Net} {a1 : Int → Option Bool} {A_a0_drains : Option Addr} {c_a0_drains : Nat} {f_a1 : Nat} {p_a1 : Array Value} {q_a1 : Array Value} {w : World} {res : (List Int)} (h_a0_drains : Sl w A_a0_drains c_a0_drains 3 (a0.drains.map encDrain)) (h_a1 : ∀ (x0 : Int) (r : Bool), a1 x0 = some r → ∀ w1, Ext w w1 → CallsV Try.prog f_a1 p_a1 q_a1 #[.int .i64 x0] w1 (Rt w1 (.bool r))) (F : drain_those a0 a1 = some res) : Calls Try.prog 82 #[.agg #[.int .i64 a0.nodes, .int .i64 a0.from_, .int .i64 a0.to_, .slice A_a0_drains a0.drains.length c_a0_drains], .func (.func f_a1) p_a1 q_a1] w (fun e w' => ∃ (A1 : Option Addr) (c1 : Nat), e = .returned (.slice A1 res.length c1) ∧ Hp w w' [.own A1 c1 3 1 (List.map encN res)]) := by
  refine calls_of_cw (args := [.agg #[.int .i64 a0.nodes, .int .i64 a0.from_, .int .i64 a0.to_, .slice A_a0_drains a0.drains.length c_a0_drains], .func (.func f_a1) p_a1 q_a1]) Try.func82 rfl rfl rfl rfl ?_
  have H := Hp.start w
  have R0 := H.ext
  unfold drain_those at F
  refine CW.seq fun K1 hK1 => ?_
  refine CW.region ?_
  refine LW.go rfl rfl (OW.box rfl fun b1 w2 N1 => ?_)
  replace H := H.new N1 N1.blk
  replace R0 := H.ext
  refine LW.pure rfl rfl (RV.assign rfl) ?_
  refine LW.nil (hK1 _ _ ?_)
  refine CW.seq fun K2 hK2 => ?_
  refine CW.region ?_
  refine LW.pure rfl rfl (RV.assign rfl) ?_
  refine LW.nil (hK2 _ _ ?_)
  refine CW.seqJ (fun ρ wl1 => (∃ (l1 : List Int) (Al1 : Option Addr) (cl1 : Nat), drain_those_k1 l1 = some res ∧ ρ = [(4, .slice none 0 0), (5, .slice Al1 l1.length cl1)] ∧ Hp w wl1 [.own Al1 cl1 3 1 (List.map encN l1)])) ?_ ?_
  ·
    rintro _ wl1 ⟨l1, Al1, cl1, F, rfl, H⟩
    have R0 := H.ext
    unfold drain_those_k1 at F
    refine CW.seq fun K3 hK3 => ?_
    refine CW.region ?_
    refine LW.pure rfl rfl (RV.move rfl) ?_
    refine LW.pure rfl rfl (RV.assign rfl) ?_
    refine LW.nil (hK3 _ _ ?_)
    refine CW.ret ?_
    obtain rfl := Option.some.inj F
    refine ⟨_, (ResOK.one rfl), ?_⟩
    exact ⟨Al1, cl1, (by first | rfl | (simp; done) | (simp; omega)), H⟩
  ·
    intro K4 hK4 jK74
    refine CW.seq fun K5 hK5 => ?_
    refine CW.region ?_
    refine LW.pure rfl rfl (RV.fieldAddr Tf24_3 rfl) ?_
    refine LW.pure rfl rfl (RV.load1 Tk22 rfl ((H.blk 0 rfl).cells.off 3) rfl) ?_
    refine LW.pure rfl rfl (RV.len Ts22 rfl) ?_
    refine LW.pure rfl rfl (RV.move rfl) ?_
    refine LW.nil (hK5 _ _ ?_)
    refine CW.block ?_
    replace H := H.nilOwn 3 1
    replace R0 := H.ext
    replace H := H.pick (L' := [.own none 0 3 1 (List.map encN (([] : List Int)))]) [0] (by decide) rfl
    replace R0 := H.ext
    refine CW.loop (fun meas ρ wl2 => ∃ (t10_1 : Int) (l3 : List Int) (Al3 : Option Addr) (cl3 : Nat), drain_those_L1 a0 a1 meas t10_1 l3 = some res ∧ ρ = [(1, .func (.func f_a1) p_a1 q_a1), (4, .slice none 0 0), (5, .slice Al3 l3.length cl3), (9, .int .i64 ((a0.drains.length : Int))), (10, .int .i64 t10_1)] ∧ Hp w wl2 [.own Al3 cl3 3 1 (List.map encN l3)]) FU ⟨_, ?_, ((0 : Int)), (([] : List Int)), none, 0, F, rfl, H⟩ ?_
    · exact ⟨rfl, rfl, (look_slice rfl (by first | rfl | (simp; done) | (simp; omega))), rfl, rfl, trivial⟩
    rintro mk1 _ wl2 ⟨t10_1, l3, Al3, cl3, F, rfl, H⟩
    have R0 := H.ext
    replace F := drain_those_L1_s F
    obtain ⟨mk1, rfl, F⟩ := F
    generalize hrec1 : drain_those_L1 a0 a1 mk1 = rec1 at F
    unfold drain_those_B1 at F
    refine CW.seq fun K6 hK6 => ?_
    refine CW.region ?_
    refine LW.pure rfl rfl (RV.lss rfl rfl) ?_
    refine LW.nil (hK6 _ _ ?_)
    refine CW.seq fun K7 hK7 => ?_
    by_cases hp1 : t10_1 < ((a0.drains.length : Int))
    ·
      replace F := ite_y hp1 F
      have hq1 := dec_t hp1
      refine CW.condT rfl hq1 ?_
      refine CW.skip (hK7 _ _ ?_)
      refine CW.seqJ (fun ρ wl3 => (∃ (l2 : List Int) (Al2 : Option Addr) (cl2 : Nat), drain_those_k2 t10_1 rec1 l2 = some res ∧ ρ = [(1, .func (.func f_a1) p_a1 q_a1), (4, .slice none 0 0), (5, .slice Al2 l2.length cl2), (9, .int .i64 ((a0.drains.length : Int))), (10, .int .i64 t10_1)] ∧ Hp w wl3 [.own Al2 cl2 3 1 (List.map encN l2)])) ?_ ?_
      ·
        rintro _ wl3 ⟨l2, Al2, cl2, F, rfl, H⟩
        have R0 := H.ext
        unfold drain_those_k2 at F
        obtain ⟨hg1, F⟩ := gd_some F
        refine CW.region ?_
        refine LW.pure rfl rfl (RV.add rfl rfl hg1) ?_
        refine LW.pure rfl rfl (RV.move rfl) ?_
        refine LW.nil ?_
        subst hrec1
        refine ⟨mk1, Nat.lt_succ_self _, _, ?_, (t10_1 + 1), l2, Al2, cl2, F, rfl, H⟩
        exact ⟨rfl, rfl, (look_slice rfl (by first | rfl | (simp; done) | (simp; omega))), rfl, rfl, trivial⟩
      ·
        intro K8 hK8 jK94
        refine CW.block ?_
        refine CW.seq fun K9 hK9 => ?_
        refine CW.region ?_
        refine LW.pure rfl rfl (RV.move rfl) ?_
        refine LW.pure rfl rfl (RV.assign rfl) ?_
        refine LW.nil (hK9 _ _ ?_)
        refine CW.seq fun K10 hK10 => ?_
        obtain ⟨r1, hr1, F⟩ := bnd_some F
        refine CW.region ?_
        refine LW.pure rfl rfl (RV.move rfl) ?_
        refine LW.pure rfl rfl (RV.move rfl) ?_
        refine LW.go rfl rfl (OW.callV2 rfl rfl rfl (h_a1 _ _ hr1 _ R0) ?_)
        rintro _ w3 ⟨rfl, E1⟩
        refine ⟨_, rfl, ?_⟩
        replace H := H.grow E1
        replace R0 := H.ext
        refine LW.nil (hK10 _ _ ?_)
        by_cases hp2 : r1 = true
        ·
          replace F := ite_y hp2 F
          have hq2 : r1 = true := hp2
          refine CW.condT rfl hq2 ?_
          obtain ⟨hg2, F⟩ := gd_some F
          refine CW.region ?_
          refine LW.pure rfl rfl (RV.move rfl) ?_
          refine LW.pure rfl rfl (RV.move rfl) ?_
          refine LW.go rfl rfl (OW.buildSlice (e := 3) (vs := [.int .i64 t10_1]) (cs := [.int .i64 t10_1]) rfl (fun _ => by kernel_rfl) fun b2 w4 N2 => ?_)
          replace H := H.made' (k := 1) (t := 3) (enc := encN) (l := ([t10_1] : List Int)) N2 N2.blk (fun _ => rfl) rfl (by first | decide | omega | (simp; done) | (simp; omega))
          replace R0 := H.ext
          refine LW.go rfl rfl (OW.appendG (enc := encN) (l := l3) (xs := ([t10_1] : List Int)) Ts30 rfl (look_slice rfl (by first | rfl | (simp; done) | (simp; omega))) (H.own 1 rfl) (H.own 0 rfl).sl (fun _ => rfl) rfl rfl hg2 (by decide) fun A2 c2 w5 O1 M1 D1 => ?_)
          replace H : Hp w w5 [.own (some ⟨b2, 0, none⟩) ((([t10_1] : List Int)).length) 3 1 (List.map encN (([t10_1] : List Int))), .own A2 c2 3 1 (List.map encN ((l3 ++ ([t10_1] : List Int))))] := H.mod 1 rfl M1 O1 D1
          replace R0 := H.ext
          refine LW.pure rfl rfl (RV.assign rfl) ?_
          replace H := H.pick (L' := [.own A2 c2 3 1 (List.map encN ((l3 ++ ([t10_1] : List Int))))]) [1] (by decide) rfl
          replace R0 := H.ext
          refine LW.nil (jK94 _ _ ⟨_, ?_, ⟨((l3 ++ ([t10_1] : List Int))), A2, c2, F, rfl, H⟩⟩)
          exact ⟨rfl, rfl, (look_slice rfl (by first | rfl | (simp; done) | (simp; omega))), rfl, rfl, trivial⟩
        ·
          replace F := ite_n hp2 F
          have hq2 : r1 = false := raw_f hp2
          refine CW.condF rfl hq2 ?_
          refine CW.skip (jK94 _ _ ⟨_, ?_, ⟨l3, Al3, cl3, F, rfl, H⟩⟩)
          exact ⟨rfl, rfl, (look_slice rfl (by first | rfl | (simp; done) | (simp; omega))), rfl, rfl, trivial⟩
    ·
      replace F := ite_n hp1 F
      have hq1 := dec_f hp1
      refine CW.condF rfl hq1 ?_
      refine CW.exit (jK74 _ _ ⟨_, ?_, ⟨l3, Al3, cl3, F, rfl, H⟩⟩)
      exact ⟨rfl, (look_slice rfl (by first | rfl | (simp; done) | (simp; omega))), trivial⟩
end Go.D2

set_option linter.unusedVariables false
set_option linter.unusedSimpArgs false
namespace Go.D2
open Go.Tb Go.Proofs Go.RowKit
theorem Tc84 : callable Try.prog 84 = true := by kernel_rfl
theorem Tc85 : callable Try.prog 85 = true := by kernel_rfl
set_option maxRecDepth 20000 in
set_option maxHeartbeats 1000000 in
theorem drain_Critical_1_ok {cap0 : Net} {cap1 : Int} {a0 : Int} {A_cap0_drains : Option Addr} {c_cap0_drains : Nat} {b_cap0 : Nat} {b_cap1 : Nat} {w : World} {res : Bool} (h_cap0_drains : Sl w A_cap0_drains c_cap0_drains 3 (cap0.drains.map encDrain)) (hc_cap0 : Cells w ⟨b_cap0, 0, none⟩ [.int .i64 cap0.nodes, .int .i64 cap0.from_, .int .i64 cap0.to_, .slice A_cap0_drains cap0.drains.length c_cap0_drains]) (hc_cap1 : Cells w ⟨b_cap1, 0, none⟩ [.int .i64 cap1]) (F : drain_Critical_1 cap0 cap1 a0 = some res) : Calls Try.prog 84 #[.int .i64 a0, .pointer (some (⟨b_cap0, 0, none⟩)), .pointer (some (⟨b_cap1, 0, none⟩))] w (Rt w (.bool res)) := by
  refine calls_of_cw (args := [.int .i64 a0, .pointer (some (⟨b_cap0, 0, none⟩)), .pointer (some (⟨b_cap1, 0, none⟩))]) Try.func84 rfl rfl rfl rfl ?_
  have H := Hp.start w
  have R0 := H.ext
  unfold drain_Critical_1 at F
  refine CW.seq fun K1 hK1 => ?_
  refine CW.region ?_
  refine LW.pure rfl rfl (RV.assign rfl) ?_
  refine LW.nil (hK1 _ _ ?_)
  refine CW.seq fun K2 hK2 => ?_
  obtain ⟨x1, hbx1, hx1, F⟩ := ix_some F
  refine CW.region ?_
  refine LW.pure rfl rfl (RV.fieldAddr Tf24_3 rfl) ?_
  refine LW.pure rfl rfl (RV.load1 Tk22 rfl ((hc_cap0.ext R0).off 3) rfl) ?_
  refine LW.pure rfl rfl (RV.move rfl) ?_
  refine LW.pure rfl rfl (RV.indexAddr Ts22 rfl rfl hbx1 (h_cap0_drains.addr_ hx1)) ?_
  refine LW.pure rfl rfl (RV.fieldAddr Tf52_2 rfl) ?_
  refine LW.pure rfl rfl (RV.load1 Tk3 rfl (((h_cap0_drains.at_ hx1).ext R0).off 2) rfl) ?_
  refine LW.pure rfl rfl (RV.assign rfl) ?_
  refine LW.nil (hK2 _ _ ?_)
  refine CW.seq fun K3 hK3 => ?_
  by_cases hp1 : (0 : Int) < x1.width
  ·
    replace F := ite_y hp1 F
    have hq1 := dec_t hp1
    obtain ⟨hg1, F⟩ := gd_some F
    obtain ⟨r1, hr1, F⟩ := bnd_some F
    obtain ⟨r2, hr2, F⟩ := bnd_some F
    refine CW.draw [] (fun _ => True) (.cons 0 1 (.cons 1 1 (.cons 2 1 (.cons 3 1 (.cons 4 1 (.cons 5 1 (.cons 6 1 (.cons 9 1 (.cons 7 0 (.cons 8 0 (.cons 10 1 (.cons 11 1 (.cons 12 1 .nil))))))))))))) mixed (by kernel_rfl) fun w1 E1 => ?_
    replace H := H.grow E1
    replace R0 := H.ext
    refine DW.fix rfl rfl rfl (fun _ EQ => RV.move rfl) ?_
    refine DW.fix rfl rfl rfl (fun _ EQ => RV.gtr rfl rfl) ?_
    refine DW.fix rfl rfl rfl (fun _ EQ => RV.move rfl) ?_
    refine DW.fixYB rfl rfl rfl rfl rfl hq1 (fun _ EQ => RV.loadA [.int .i64 cap0.nodes, .int .i64 cap0.from_, .int .i64 cap0.to_, .slice A_cap0_drains cap0.drains.length c_cap0_drains] Tk24 rfl (hc_cap0.ext (R0.trans EQ)) rfl rfl) ?_
    refine DW.fixYB rfl rfl rfl rfl rfl hq1 (fun _ EQ => RV.move rfl) ?_
    refine DW.fixYB rfl rfl rfl rfl rfl hq1 (fun _ EQ => RV.move rfl) ?_
    refine DW.fixYB rfl rfl rfl rfl rfl hq1 (fun _ EQ => RV.sub rfl rfl hg1) ?_
    refine DW.fixYB rfl rfl rfl rfl rfl hq1 (fun _ EQ => RV.load1 Tk3 rfl (hc_cap1.ext (R0.trans EQ)) rfl) ?_
    refine DW.soleYB rfl rfl rfl rfl rfl hq1 (OW.call Tc80 rfl (drain_changed_ok (a0 := cap0) (a1 := a0) (a2 := x1.width - 1) (h_cap0_drains.ext R0) hr1) ?_)
    rintro _ w2 ⟨A5_0_drains, c5_0_drains, rfl, E2⟩
    refine ⟨_, rfl, fun _ => E2.ext, ModX.ext E2.ext, ?_⟩
    replace H : Hp w w2 [.own A5_0_drains c5_0_drains 52 3 (List.map encDrain r1.drains)] := H.append E2
    replace R0 := H.ext
    refine DW.soleYB rfl rfl rfl rfl rfl hq1 (OW.call Tc56 rfl (drain_most_ok (a0 := r1) (H.own 0 rfl).sl hr2) ?_)
    rintro _ w3 ⟨rfl, E3⟩
    refine ⟨_, rfl, fun _ => E3, ModX.ext E3, ?_⟩
    replace H := H.grow E3
    replace R0 := H.ext
    refine DW.fixYB rfl rfl rfl rfl rfl hq1 (fun _ EQ => RV.lss rfl rfl) ?_
    refine DW.fix rfl rfl rfl (fun _ EQ => RV.pickTB rfl hq1 rfl) ?_
    refine DW.fix rfl rfl rfl (fun _ EQ => RV.assign rfl) ?_
    refine DW.nil (hK3 _ _ ?_)
    refine CW.ret ?_
    obtain rfl := Option.some.inj F
    refine ⟨_, (ResOK.one rfl), ?_⟩
    refine ⟨(by first | rfl | simp), R0⟩
  ·
    replace F := ite_n hp1 F
    have hq1 := dec_f hp1
    refine CW.draw [] (fun _ => True) (.cons 0 1 (.cons 1 1 (.cons 2 1 (.cons 3 1 (.cons 4 1 (.cons 5 1 (.cons 6 1 (.cons 9 1 (.cons 7 0 (.cons 8 0 (.cons 10 1 (.cons 11 1 (.cons 12 1 .nil))))))))))))) mixed (by kernel_rfl) fun w4 E4 => ?_
    replace H := H.grow E4
    replace R0 := H.ext
    refine DW.fix rfl rfl rfl (fun _ EQ => RV.move rfl) ?_
    refine DW.fix rfl rfl rfl (fun _ EQ => RV.gtr rfl rfl) ?_
    refine DW.fix rfl rfl rfl (fun _ EQ => RV.move rfl) ?_
    refine DW.fixNB rfl rfl rfl rfl rfl (ne_beq (v := false) hq1 rfl) ?_
    refine DW.fixNB rfl rfl rfl rfl rfl (ne_beq (v := false) hq1 rfl) ?_
    refine DW.fixNB rfl rfl rfl rfl rfl (ne_beq (v := false) hq1 rfl) ?_
    refine DW.fixNB rfl rfl rfl rfl rfl (ne_beq (v := false) hq1 rfl) ?_
    refine DW.fixNB rfl rfl rfl rfl rfl (ne_beq (v := false) hq1 rfl) ?_
    refine DW.soleNB rfl rfl rfl rfl rfl (ne_beq (v := false) hq1 rfl) ?_
    refine DW.soleNB rfl rfl rfl rfl rfl (ne_beq (v := false) hq1 rfl) ?_
    refine DW.fixNB rfl rfl rfl rfl rfl (ne_beq (v := false) hq1 rfl) ?_
    refine DW.fix rfl rfl rfl (fun _ EQ => RV.pickFB rfl hq1 rfl) ?_
    refine DW.fix rfl rfl rfl (fun _ EQ => RV.assign rfl) ?_
    refine DW.nil (hK3 _ _ ?_)
    refine CW.ret ?_
    obtain rfl := Option.some.inj F
    refine ⟨_, (ResOK.one rfl), ?_⟩
    refine ⟨(by first | rfl | simp), R0⟩
set_option maxRecDepth 20000 in
set_option maxHeartbeats 1000000 in
theorem drain_Critical_ok {a0 : Net} {A_a0_drains : Option Addr} {c_a0_drains : Nat} {w : World} {res : (List Int) × Int} (h_a0_drains : Sl w A_a0_drains c_a0_drains 3 (a0.drains.map encDrain)) (F : drain_Critical a0 = some res) : Calls Try.prog 45 #[.agg #[.int .i64 a0.nodes, .int .i64 a0.from_, .int .i64 a0.to_, .slice A_a0_drains a0.drains.length c_a0_drains]] w (fun e w' => ∃ (A0 : Option Addr) (c0 : Nat), e = .returned (.tuple #[.slice A0 res.1.length c0, .int .i64 res.2]) ∧ Hp w w' [.own A0 c0 3 1 (List.map encN res.1)]) := by
  refine calls_of_cw (args := [.agg #[.int .i64 a0.nodes, .int .i64 a0.from_, .int .i64 a0.to_, .slice A_a0_drains a0.drains.length c_a0_drains]]) Try.func45 rfl rfl rfl rfl ?_
  have H := Hp.start w
  have R0 := H.ext
  unfold drain_Critical at F
  refine CW.seq fun K1 hK1 => ?_
  refine CW.region ?_
  refine LW.go rfl rfl (OW.box rfl fun b1 w1 N1 => ?_)
  replace H := H.new N1 N1.blk
  replace R0 := H.ext
  refine LW.pure rfl rfl (RV.assign rfl) ?_
  refine LW.pure rfl rfl (RV.assign rfl) ?_
  refine LW.nil (hK1 _ _ ?_)
  refine CW.seq fun K2 hK2 => ?_
  refine CW.seq fun K3 hK3 => ?_
  obtain ⟨r1, hr1, F⟩ := bnd_some F
  refine CW.region ?_
  refine LW.pure rfl rfl (RV.loadA [.int .i64 a0.nodes, .int .i64 a0.from_, .int .i64 a0.to_, .slice A_a0_drains a0.drains.length c_a0_drains] Tk24 rfl (H.blk 0 rfl).cells rfl rfl) ?_
  refine LW.go rfl rfl (OW.call Tc26 rfl (drain_Validate_ok (a0 := a0) (h_a0_drains.ext R0) hr1) ?_)
  rintro _ w2 ⟨rfl, E1⟩
  refine ⟨_, rfl, ?_⟩
  replace H := H.grow E1
  replace R0 := H.ext
  refine LW.pure rfl rfl (RV.assign rfl) ?_
  refine LW.nil (hK3 _ _ ?_)
  refine CW.seq fun K4 hK4 => ?_
  refine CW.region ?_
  refine LW.pure rfl rfl (RV.move rfl) ?_
  refine LW.pure rfl rfl (RV.nei rfl rfl) ?_
  refine LW.nil (hK4 _ _ ?_)
  by_cases hp1 : r1 = 0
  ·
    replace F := ite_y hp1 F
    have hq1 := dec_t hp1
    refine CW.condF rfl (not_f hq1) ?_
    refine CW.skip (hK2 _ _ ?_)
    refine CW.seq fun K5 hK5 => ?_
    obtain ⟨r2, hr2, F⟩ := bnd_some F
    refine CW.region ?_
    refine LW.pure rfl rfl (RV.loadA [.int .i64 a0.nodes, .int .i64 a0.from_, .int .i64 a0.to_, .slice A_a0_drains a0.drains.length c_a0_drains] Tk24 rfl (H.blk 0 rfl).cells rfl rfl) ?_
    refine LW.go rfl rfl (OW.call Tc56 rfl (drain_most_ok (a0 := a0) (h_a0_drains.ext R0) hr2) ?_)
    rintro _ w3 ⟨rfl, E2⟩
    refine ⟨_, rfl, ?_⟩
    replace H := H.grow E2
    replace R0 := H.ext
    refine LW.go rfl rfl (OW.alloc Tz3 fun b2 w4 N2 => ?_)
    replace H := H.new N2 N2.blk
    replace R0 := H.ext
    refine LW.go rfl rfl (OW.store Tk3 rfl rfl (H.blk 0 rfl) (off := 0) (vs := [.int .i64 r2]) rfl rfl rfl rfl rfl fun w5 S1 => ?_)
    replace H : Hp w w5 [.blk b2 3 [.int .i64 r2], .blk b1 24 [.int .i64 a0.nodes, .int .i64 a0.from_, .int .i64 a0.to_, .slice A_a0_drains a0.drains.length c_a0_drains]] := H.stored 0 rfl S1
    replace R0 := H.ext
    refine LW.nil (hK5 _ _ ?_)
    refine CW.seq fun K6 hK6 => ?_
    obtain ⟨r3, hr3, F⟩ := bnd_some F
    refine CW.region ?_
    refine LW.pure rfl rfl (RV.loadA [.int .i64 a0.nodes, .int .i64 a0.from_, .int .i64 a0.to_, .slice A_a0_drains a0.drains.length c_a0_drains] Tk24 rfl (H.blk 1 rfl).cells rfl rfl) ?_
    refine LW.pure rfl rfl (RV.makeFunc (fs := []) (cs := [.pointer (some (⟨b1, 0, none⟩)), .pointer (some (⟨b2, 0, none⟩))]) rfl rfl) ?_
    refine LW.go rfl rfl (OW.call Tc82 rfl (drain_those_ok (a0 := a0) (a1 := (fun x0 => drain_Critical_1 a0 r2 x0)) (h_a0_drains.ext R0) (fun x0 r hF w6 hE => CallsV.cap Tc84 (by simp) (drain_Critical_1_ok (cap0 := a0) (cap1 := r2) (a0 := x0) ((h_a0_drains.ext R0).ext hE) ((H.blk 1 rfl).cells.ext hE) ((H.blk 0 rfl).cells.ext hE) hF)) hr3) ?_)
    rintro _ w7 ⟨A9_0, c9_0, rfl, E3⟩
    refine ⟨_, rfl, ?_⟩
    replace H : Hp w w7 [.own A9_0 c9_0 3 1 (List.map encN r3), .blk b2 3 [.int .i64 r2], .blk b1 24 [.int .i64 a0.nodes, .int .i64 a0.from_, .int .i64 a0.to_, .slice A_a0_drains a0.drains.length c_a0_drains]] := H.append E3
    replace R0 := H.ext
    refine LW.pure rfl rfl (RV.assign rfl) ?_
    refine LW.pure rfl rfl (RV.assign rfl) ?_
    refine LW.nil (hK6 _ _ ?_)
    refine CW.ret ?_
    obtain rfl := Option.some.inj F
    refine ⟨_, (ResOK.two rfl rfl), ?_⟩
    replace H := H.pick (L' := [.own A9_0 c9_0 3 1 (List.map encN r3)]) [0] (by decide) rfl
    replace R0 := H.ext
    exact ⟨A9_0, c9_0, (by first | rfl | (simp; done) | (simp; omega)), H⟩
  ·
    replace F := ite_n hp1 F
    have hq1 := dec_f hp1
    refine CW.condT rfl (not_t hq1) ?_
    refine CW.seq fun K7 hK7 => ?_
    refine CW.region ?_
    refine LW.pure rfl rfl (RV.move rfl) ?_
    refine LW.pure rfl rfl (RV.assign rfl) ?_
    refine LW.pure rfl rfl (RV.assign rfl) ?_
    refine LW.nil (hK7 _ _ ?_)
    refine CW.ret ?_
    obtain rfl := Option.some.inj F
    refine ⟨_, (ResOK.two rfl rfl), ?_⟩
    replace H := H.nilOwn 3 1
    replace R0 := H.ext
    replace H := H.pick (L' := [.own none 0 3 1 (List.map encN (([] : List Int)))]) [0] (by decide) rfl
    replace R0 := H.ext
    exact ⟨none, 0, (by first | rfl | (simp; done) | (simp; omega)), H⟩
set_option maxRecDepth 20000 in
set_option maxHeartbeats 1000000 in
theorem drain_Needless_1_ok {cap0 : Net} {cap1 : Int} {a0 : Int} {A_cap0_drains : Option Addr} {c_cap0_drains : Nat} {b_cap0 : Nat} {b_cap1 : Nat} {w : World} {res : Bool} (h_cap0_drains : Sl w A_cap0_drains c_cap0_drains 3 (cap0.drains.map encDrain)) (hc_cap0 : Cells w ⟨b_cap0, 0, none⟩ [.int .i64 cap0.nodes, .int .i64 cap0.from_, .int .i64 cap0.to_, .slice A_cap0_drains cap0.drains.length c_cap0_drains]) (hc_cap1 : Cells w ⟨b_cap1, 0, none⟩ [.int .i64 cap1]) (F : drain_Needless_1 cap0 cap1 a0 = some res) : Calls Try.prog 85 #[.int .i64 a0, .pointer (some (⟨b_cap0, 0, none⟩)), .pointer (some (⟨b_cap1, 0, none⟩))] w (Rt w (.bool res)) := by
  refine calls_of_cw (args := [.int .i64 a0, .pointer (some (⟨b_cap0, 0, none⟩)), .pointer (some (⟨b_cap1, 0, none⟩))]) Try.func85 rfl rfl rfl rfl ?_
  have H := Hp.start w
  have R0 := H.ext
  unfold drain_Needless_1 at F
  refine CW.seq fun K1 hK1 => ?_
  refine CW.region ?_
  refine LW.pure rfl rfl (RV.assign rfl) ?_
  refine LW.nil (hK1 _ _ ?_)
  refine CW.seq fun K2 hK2 => ?_
  obtain ⟨r1, hr1, F⟩ := bnd_some F
  obtain ⟨r2, hr2, F⟩ := bnd_some F
  refine CW.draw [] (fun _ => True) (.cons 0 1 (.cons 1 1 (.cons 4 1 (.cons 2 0 (.cons 3 0 (.cons 5 1 (.cons 6 1 .nil))))))) mixed (by kernel_rfl) fun w1 E1 => ?_
  replace H := H.grow E1
  replace R0 := H.ext
  refine DW.fix rfl rfl rfl (fun _ EQ => RV.loadA [.int .i64 cap0.nodes, .int .i64 cap0.from_, .int .i64 cap0.to_, .slice A_cap0_drains cap0.drains.length c_cap0_drains] Tk24 rfl (hc_cap0.ext (R0.trans EQ)) rfl rfl) ?_
  refine DW.fix rfl rfl rfl (fun _ EQ => RV.move rfl) ?_
  refine DW.fix rfl rfl rfl (fun _ EQ => RV.load1 Tk3 rfl (hc_cap1.ext (R0.trans EQ)) rfl) ?_
  refine DW.sole rfl rfl rfl (OW.call Tc80 rfl (drain_changed_ok (a0 := cap0) (a1 := a0) (a2 := (0 : Int)) (h_cap0_drains.ext R0) hr1) ?_)
  rintro _ w2 ⟨A5_0_drains, c5_0_drains, rfl, E2⟩
  refine ⟨_, rfl, fun _ => E2.ext, ModX.ext E2.ext, ?_⟩
  replace H : Hp w w2 [.own A5_0_drains c5_0_drains 52 3 (List.map encDrain r1.drains)] := H.append E2
  replace R0 := H.ext
  refine DW.sole rfl rfl rfl (OW.call Tc56 rfl (drain_most_ok (a0 := r1) (H.own 0 rfl).sl hr2) ?_)
  rintro _ w3 ⟨rfl, E3⟩
  refine ⟨_, rfl, fun _ => E3, ModX.ext E3, ?_⟩
  replace H := H.grow E3
  replace R0 := H.ext
  refine DW.fix rfl rfl rfl (fun _ EQ => RV.eqi rfl rfl) ?_
  refine DW.fix rfl rfl rfl (fun _ EQ => RV.assign rfl) ?_
  refine DW.nil (hK2 _ _ ?_)
  refine CW.ret ?_
  obtain rfl := Option.some.inj F
  refine ⟨_, (ResOK.one rfl), ?_⟩
  refine ⟨(by first | rfl | simp), R0⟩
set_option maxRecDepth 20000 in
set_option maxHeartbeats 1000000 in
theorem drain_Needless_ok {a0 : Net} {A_a0_drains : Option Addr} {c_a0_drains : Nat} {w : World} {res : (List Int) × Int} (h_a0_drains : Sl w A_a0_drains c_a0_drains 3 (a0.drains.map encDrain)) (F : drain_Needless a0 = some res) : Calls Try.prog 48 #[.agg #[.int .i64 a0.nodes, .int .i64 a0.from_, .int .i64 a0.to_, .slice A_a0_drains a0.drains.length c_a0_drains]] w (fun e w' => ∃ (A0 : Option Addr) (c0 : Nat), e = .returned (.tuple #[.slice A0 res.1.length c0, .int .i64 res.2]) ∧ Hp w w' [.own A0 c0 3 1 (List.map encN res.1)]) := by
  refine calls_of_cw (args := [.agg #[.int .i64 a0.nodes, .int .i64 a0.from_, .int .i64 a0.to_, .slice A_a0_drains a0.drains.length c_a0_drains]]) Try.func48 rfl rfl rfl rfl ?_
  have H := Hp.start w
  have R0 := H.ext
  unfold drain_Needless at F
  refine CW.seq fun K1 hK1 => ?_
  refine CW.region ?_
  refine LW.go rfl rfl (OW.box rfl fun b1 w1 N1 => ?_)
  replace H := H.new N1 N1.blk
  replace R0 := H.ext
  refine LW.pure rfl rfl (RV.assign rfl) ?_
  refine LW.pure rfl rfl (RV.assign rfl) ?_
  refine LW.nil (hK1 _ _ ?_)
  refine CW.seq fun K2 hK2 => ?_
  refine CW.seq fun K3 hK3 => ?_
  obtain ⟨r1, hr1, F⟩ := bnd_some F
  refine CW.region ?_
  refine LW.pure rfl rfl (RV.loadA [.int .i64 a0.nodes, .int .i64 a0.from_, .int .i64 a0.to_, .slice A_a0_drains a0.drains.length c_a0_drains] Tk24 rfl (H.blk 0 rfl).cells rfl rfl) ?_
  refine LW.go rfl rfl (OW.call Tc26 rfl (drain_Validate_ok (a0 := a0) (h_a0_drains.ext R0) hr1) ?_)
  rintro _ w2 ⟨rfl, E1⟩
  refine ⟨_, rfl, ?_⟩
  replace H := H.grow E1
  replace R0 := H.ext
  refine LW.pure rfl rfl (RV.assign rfl) ?_
  refine LW.nil (hK3 _ _ ?_)
  refine CW.seq fun K4 hK4 => ?_
  refine CW.region ?_
  refine LW.pure rfl rfl (RV.move rfl) ?_
  refine LW.pure rfl rfl (RV.nei rfl rfl) ?_
  refine LW.nil (hK4 _ _ ?_)
  by_cases hp1 : r1 = 0
  ·
    replace F := ite_y hp1 F
    have hq1 := dec_t hp1
    refine CW.condF rfl (not_f hq1) ?_
    refine CW.skip (hK2 _ _ ?_)
    refine CW.seq fun K5 hK5 => ?_
    obtain ⟨r2, hr2, F⟩ := bnd_some F
    refine CW.region ?_
    refine LW.pure rfl rfl (RV.loadA [.int .i64 a0.nodes, .int .i64 a0.from_, .int .i64 a0.to_, .slice A_a0_drains a0.drains.length c_a0_drains] Tk24 rfl (H.blk 0 rfl).cells rfl rfl) ?_
    refine LW.go rfl rfl (OW.call Tc56 rfl (drain_most_ok (a0 := a0) (h_a0_drains.ext R0) hr2) ?_)
    rintro _ w3 ⟨rfl, E2⟩
    refine ⟨_, rfl, ?_⟩
    replace H := H.grow E2
    replace R0 := H.ext
    refine LW.go rfl rfl (OW.alloc Tz3 fun b2 w4 N2 => ?_)
    replace H := H.new N2 N2.blk
    replace R0 := H.ext
    refine LW.go rfl rfl (OW.store Tk3 rfl rfl (H.blk 0 rfl) (off := 0) (vs := [.int .i64 r2]) rfl rfl rfl rfl rfl fun w5 S1 => ?_)
    replace H : Hp w w5 [.blk b2 3 [.int .i64 r2], .blk b1 24 [.int .i64 a0.nodes, .int .i64 a0.from_, .int .i64 a0.to_, .slice A_a0_drains a0.drains.length c_a0_drains]] := H.stored 0 rfl S1
    replace R0 := H.ext
    refine LW.nil (hK5 _ _ ?_)
    refine CW.seq fun K6 hK6 => ?_
    obtain ⟨r3, hr3, F⟩ := bnd_some F
    refine CW.region ?_
    refine LW.pure rfl rfl (RV.loadA [.int .i64 a0.nodes, .int .i64 a0.from_, .int .i64 a0.to_, .slice A_a0_drains a0.drains.length c_a0_drains] Tk24 rfl (H.blk 1 rfl).cells rfl rfl) ?_
    refine LW.pure rfl rfl (RV.makeFunc (fs := []) (cs := [.pointer (some (⟨b1, 0, none⟩)), .pointer (some (⟨b2, 0, none⟩))]) rfl rfl) ?_
    refine LW.go rfl rfl (OW.call Tc82 rfl (drain_those_ok (a0 := a0) (a1 := (fun x0 => drain_Needless_1 a0 r2 x0)) (h_a0_drains.ext R0) (fun x0 r hF w6 hE => CallsV.cap Tc85 (by simp) (drain_Needless_1_ok (cap0 := a0) (cap1 := r2) (a0 := x0) ((h_a0_drains.ext R0).ext hE) ((H.blk 1 rfl).cells.ext hE) ((H.blk 0 rfl).cells.ext hE) hF)) hr3) ?_)
    rintro _ w7 ⟨A9_0, c9_0, rfl, E3⟩
    refine ⟨_, rfl, ?_⟩
    replace H : Hp w w7 [.own A9_0 c9_0 3 1 (List.map encN r3), .blk b2 3 [.int .i64 r2], .blk b1 24 [.int .i64 a0.nodes, .int .i64 a0.from_, .int .i64 a0.to_, .slice A_a0_drains a0.drains.length c_a0_drains]] := H.append E3
    replace R0 := H.ext
    refine LW.pure rfl rfl (RV.assign rfl) ?_
    refine LW.pure rfl rfl (RV.assign rfl) ?_
    refine LW.nil (hK6 _ _ ?_)
    refine CW.ret ?_
    obtain rfl := Option.some.inj F
    refine ⟨_, (ResOK.two rfl rfl), ?_⟩
    replace H := H.pick (L' := [.own A9_0 c9_0 3 1 (List.map encN r3)]) [0] (by decide) rfl
    replace R0 := H.ext
    exact ⟨A9_0, c9_0, (by first | rfl | (simp; done) | (simp; omega)), H⟩
  ·
    replace F := ite_n hp1 F
    have hq1 := dec_f hp1
    refine CW.condT rfl (not_t hq1) ?_
    refine CW.seq fun K7 hK7 => ?_
    refine CW.region ?_
    refine LW.pure rfl rfl (RV.move rfl) ?_
    refine LW.pure rfl rfl (RV.assign rfl) ?_
    refine LW.pure rfl rfl (RV.assign rfl) ?_
    refine LW.nil (hK7 _ _ ?_)
    refine CW.ret ?_
    obtain rfl := Option.some.inj F
    refine ⟨_, (ResOK.two rfl rfl), ?_⟩
    replace H := H.nilOwn 3 1
    replace R0 := H.ext
    replace H := H.pick (L' := [.own none 0 3 1 (List.map encN (([] : List Int)))]) [0] (by decide) rfl
    replace R0 := H.ext
    exact ⟨none, 0, (by first | rfl | (simp; done) | (simp; omega)), H⟩
end Go.D2

set_option linter.unusedVariables false
set_option linter.unusedSimpArgs false
namespace Go.D2
open Go.Tb Go.Proofs Go.RowKit
theorem Tc45 : callable Try.prog 45 = true := by kernel_rfl
theorem Tc48 : callable Try.prog 48 = true := by kernel_rfl
end Go.D2

set_option linter.unusedVariables false
set_option linter.unusedSimpArgs false
namespace Go.D2
open Go.Tb Go.Proofs Go.RowKit
set_option maxRecDepth 20000 in
set_option maxHeartbeats 1000000 in
theorem drain_CheckMost_ok {a0 : Net} {a1 : List Int} {a2 : List Int} {A_a0_drains : Option Addr} {c_a0_drains : Nat} {A_a1 : Option Addr} {c_a1 : Nat} {A_a2 : Option Addr} {c_a2 : Nat} {w : World} {res : Int} (h_a0_drains : Sl w A_a0_drains c_a0_drains 3 (a0.drains.map encDrain)) (h_a1 : Sl w A_a1 c_a1 1 (a1.map encN)) (h_a2 : Sl w A_a2 c_a2 1 (a2.map encN)) (F : drain_CheckMost a0 a1 a2 = some res) : Calls Try.prog 51 #[.agg #[.int .i64 a0.nodes, .int .i64 a0.from_, .int .i64 a0.to_, .slice A_a0_drains a0.drains.length c_a0_drains], .slice A_a1 a1.length c_a1, .slice A_a2 a2.length c_a2] w (Rt w (.int .i64 res)) := by
  refine calls_of_cw (args := [.agg #[.int .i64 a0.nodes, .int .i64 a0.from_, .int .i64 a0.to_, .slice A_a0_drains a0.drains.length c_a0_drains], .slice A_a1 a1.length c_a1, .slice A_a2 a2.length c_a2]) Try.func51 rfl rfl rfl rfl ?_
  have H := Hp.start w
  have R0 := H.ext
  unfold drain_CheckMost at F
  refine CW.seq fun K1 hK1 => ?_
  refine CW.region ?_
  refine LW.go rfl rfl (OW.box rfl fun b1 w1 N1 => ?_)
  replace H := H.new N1 N1.blk
  replace R0 := H.ext
  refine LW.pure rfl rfl (RV.assign rfl) ?_
  refine LW.nil (hK1 _ _ ?_)
  refine CW.seq fun K2 hK2 => ?_
  obtain ⟨r1, hr1, F⟩ := bnd_some F
  refine CW.region ?_
  refine LW.pure rfl rfl (RV.loadA [.int .i64 a0.nodes, .int .i64 a0.from_, .int .i64 a0.to_, .slice A_a0_drains a0.drains.length c_a0_drains] Tk24 rfl (H.blk 0 rfl).cells rfl rfl) ?_
  refine LW.pure rfl rfl (RV.move rfl) ?_
  refine LW.go rfl rfl (OW.call Tc25 rfl (drain_CheckFlow_ok (a0 := a0) (a1 := a1) (h_a0_drains.ext R0) (h_a1.ext R0) hr1) ?_)
  rintro _ w2 ⟨rfl, E1⟩
  refine ⟨_, rfl, ?_⟩
  replace H := H.grow E1
  replace R0 := H.ext
  refine LW.pure rfl rfl (RV.move rfl) ?_
  refine LW.pure rfl rfl (RV.extract rfl rfl) ?_
  refine LW.pure rfl rfl (RV.extract rfl rfl) ?_
  refine LW.pure rfl rfl (RV.assign rfl) ?_
  refine LW.pure rfl rfl (RV.assign rfl) ?_
  refine LW.nil (hK2 _ _ ?_)
  refine CW.seq fun K3 hK3 => ?_
  refine CW.seq fun K4 hK4 => ?_
  refine CW.region ?_
  refine LW.pure rfl rfl (RV.move rfl) ?_
  refine LW.pure rfl rfl (RV.nei rfl rfl) ?_
  refine LW.nil (hK4 _ _ ?_)
  by_cases hp1 : r1.2 = 0
  ·
    replace F := ite_y hp1 F
    have hq1 := dec_t hp1
    refine CW.condF rfl (not_f hq1) ?_
    refine CW.skip (hK3 _ _ ?_)
    refine CW.seq fun K5 hK5 => ?_
    obtain ⟨r2, hr2, F⟩ := bnd_some F
    refine CW.region ?_
    refine LW.pure rfl rfl (RV.loadA [.int .i64 a0.nodes, .int .i64 a0.from_, .int .i64 a0.to_, .slice A_a0_drains a0.drains.length c_a0_drains] Tk24 rfl (H.blk 0 rfl).cells rfl rfl) ?_
    refine LW.pure rfl rfl (RV.move rfl) ?_
    refine LW.go rfl rfl (OW.call Tc28 rfl (drain_Across_ok (a0 := a0) (a1 := a2) (h_a0_drains.ext R0) (h_a2.ext R0) hr2) ?_)
    rintro _ w3 ⟨rfl, E2⟩
    refine ⟨_, rfl, ?_⟩
    replace H := H.grow E2
    replace R0 := H.ext
    refine LW.pure rfl rfl (RV.move rfl) ?_
    refine LW.pure rfl rfl (RV.extract rfl rfl) ?_
    refine LW.pure rfl rfl (RV.extract rfl rfl) ?_
    refine LW.pure rfl rfl (RV.assign rfl) ?_
    refine LW.pure rfl rfl (RV.assign rfl) ?_
    refine LW.nil (hK5 _ _ ?_)
    refine CW.seq fun K6 hK6 => ?_
    refine CW.seq fun K7 hK7 => ?_
    refine CW.region ?_
    refine LW.pure rfl rfl (RV.move rfl) ?_
    refine LW.pure rfl rfl (RV.nei rfl rfl) ?_
    refine LW.nil (hK7 _ _ ?_)
    by_cases hp2 : r2.2 = 0
    ·
      replace F := ite_y hp2 F
      have hq2 := dec_t hp2
      refine CW.condF rfl (not_f hq2) ?_
      refine CW.skip (hK6 _ _ ?_)
      refine CW.seq fun K8 hK8 => ?_
      refine CW.seq fun K9 hK9 => ?_
      refine CW.region ?_
      refine LW.pure rfl rfl (RV.move rfl) ?_
      refine LW.pure rfl rfl (RV.move rfl) ?_
      refine LW.pure rfl rfl (RV.nei rfl rfl) ?_
      refine LW.nil (hK9 _ _ ?_)
      by_cases hp3 : r1.1 = r2.1
      ·
        replace F := ite_y hp3 F
        have hq3 := dec_t hp3
        refine CW.condF rfl (not_f hq3) ?_
        refine CW.skip (hK8 _ _ ?_)
        refine CW.seq fun K10 hK10 => ?_
        refine CW.region ?_
        refine LW.pure rfl rfl (RV.assign rfl) ?_
        refine LW.nil (hK10 _ _ ?_)
        refine CW.ret ?_
        obtain rfl := Option.some.inj F
        refine ⟨_, (ResOK.one rfl), ?_⟩
        refine ⟨(by first | rfl | simp), R0⟩
      ·
        replace F := ite_n hp3 F
        have hq3 := dec_f hp3
        refine CW.condT rfl (not_t hq3) ?_
        refine CW.seq fun K11 hK11 => ?_
        refine CW.region ?_
        refine LW.pure rfl rfl (RV.assign rfl) ?_
        refine LW.nil (hK11 _ _ ?_)
        refine CW.ret ?_
        obtain rfl := Option.some.inj F
        refine ⟨_, (ResOK.one rfl), ?_⟩
        refine ⟨(by first | rfl | simp), R0⟩
    ·
      replace F := ite_n hp2 F
      have hq2 := dec_f hp2
      refine CW.condT rfl (not_t hq2) ?_
      refine CW.seq fun K12 hK12 => ?_
      refine CW.region ?_
      refine LW.pure rfl rfl (RV.move rfl) ?_
      refine LW.pure rfl rfl (RV.assign rfl) ?_
      refine LW.nil (hK12 _ _ ?_)
      refine CW.ret ?_
      obtain rfl := Option.some.inj F
      refine ⟨_, (ResOK.one rfl), ?_⟩
      refine ⟨(by first | rfl | simp), R0⟩
  ·
    replace F := ite_n hp1 F
    have hq1 := dec_f hp1
    refine CW.condT rfl (not_t hq1) ?_
    refine CW.seq fun K13 hK13 => ?_
    refine CW.region ?_
    refine LW.pure rfl rfl (RV.move rfl) ?_
    refine LW.pure rfl rfl (RV.assign rfl) ?_
    refine LW.nil (hK13 _ _ ?_)
    refine CW.ret ?_
    obtain rfl := Option.some.inj F
    refine ⟨_, (ResOK.one rfl), ?_⟩
    refine ⟨(by first | rfl | simp), R0⟩
end Go.D2

set_option linter.unusedVariables false
set_option linter.unusedSimpArgs false
namespace Go.D2
open Go.Tb Go.Proofs Go.RowKit
theorem Tc51 : callable Try.prog 51 = true := by kernel_rfl
end Go.D2

set_option linter.unusedVariables false
set_option linter.unusedSimpArgs false
namespace Go.D2
open Go.Tb Go.Proofs Go.RowKit
theorem Tc77 : callable Try.prog 77 = true := by kernel_rfl
theorem Tf79_0 : tyF Try.prog 79 0 = some 0 := by kernel_rfl
theorem Tf79_1 : tyF Try.prog 79 1 = some 1 := by kernel_rfl
theorem Tk30 : tyK Try.prog 30 = some (false, 1) := by kernel_rfl
theorem Tk79 : tyK Try.prog 79 = some (true, 2) := by kernel_rfl
theorem Ts45 : tyS Try.prog 45 = some (79, 2, 32, [.slice none 0 0, .int .i64 0]) := by kernel_rfl
theorem Tz79 : tyZ Try.prog 79 = some (.agg #[.slice none 0 0, .int .i64 0]) := by kernel_rfl
set_option maxRecDepth 20000 in
set_option maxHeartbeats 1000000 in
theorem drain_isTrail_ok {a0 : Net} {a1 : Trail} {A_a0_drains : Option Addr} {c_a0_drains : Nat} {A_a1_drains : Option Addr} {c_a1_drains : Nat} {w : World} {res : Bool} (h_a0_drains : Sl w A_a0_drains c_a0_drains 3 (a0.drains.map encDrain)) (h_a1_drains : Sl w A_a1_drains c_a1_drains 1 (a1.drains.map encN)) (F : drain_isTrail a0 a1 = some res) : Calls Try.prog 77 #[.agg #[.int .i64 a0.nodes, .int .i64 a0.from_, .int .i64 a0.to_, .slice A_a0_drains a0.drains.length c_a0_drains], .agg #[.slice A_a1_drains a1.drains.length c_a1_drains, .int .i64 a1.amount]] w (Rt w (.bool res)) := by
  refine calls_of_cw (args := [.agg #[.int .i64 a0.nodes, .int .i64 a0.from_, .int .i64 a0.to_, .slice A_a0_drains a0.drains.length c_a0_drains], .agg #[.slice A_a1_drains a1.drains.length c_a1_drains, .int .i64 a1.amount]]) Try.func77 rfl rfl rfl rfl ?_
  have H := Hp.start w
  have R0 := H.ext
  unfold drain_isTrail at F
  refine CW.seq fun K1 hK1 => ?_
  refine CW.region ?_
  refine LW.go rfl rfl (OW.box rfl fun b1 w1 N1 => ?_)
  replace H := H.new N1 N1.blk
  replace R0 := H.ext
  refine LW.go rfl rfl (OW.box rfl fun b2 w2 N2 => ?_)
  replace H := H.new N2 N2.blk
  replace R0 := H.ext
  refine LW.pure rfl rfl (RV.assign rfl) ?_
  refine LW.nil (hK1 _ _ ?_)
  refine CW.seq fun K2 hK2 => ?_
  refine CW.seqJ (fun ρ wl1 => (∃ (t18_1 : Bool), drain_isTrail_k3 a0 a1 t18_1 = some res ∧ ρ = [(2, .pointer (some (⟨b1, 0, none⟩))), (3, .pointer (some (⟨b2, 0, none⟩))), (4, .bool false), (18, .bool t18_1)] ∧ Hp w wl1 [.blk b1 24 [.int .i64 a0.nodes, .int .i64 a0.from_, .int .i64 a0.to_, .slice A_a0_drains a0.drains.length c_a0_drains], .blk b2 79 [.slice A_a1_drains a1.drains.length c_a1_drains, .int .i64 a1.amount]])) ?_ ?_
  ·
    rintro _ wl1 ⟨t18_1, F, rfl, H⟩
    have R0 := H.ext
    unfold drain_isTrail_k3 at F
    by_cases hp1 : t18_1 = true
    ·
      replace F := ite_y hp1 F
      have hq1 : t18_1 = true := hp1
      refine CW.condT rfl hq1 ?_
      refine CW.seq fun K3 hK3 => ?_
      refine CW.region ?_
      refine LW.pure rfl rfl (RV.assign rfl) ?_
      refine LW.nil (hK3 _ _ ?_)
      refine CW.ret ?_
      obtain rfl := Option.some.inj F
      refine ⟨_, (ResOK.one rfl), ?_⟩
      refine ⟨(by first | rfl | simp), R0⟩
    ·
      replace F := ite_n hp1 F
      have hq1 : t18_1 = false := raw_f hp1
      refine CW.condF rfl hq1 ?_
      refine CW.skip (hK2 _ _ ?_)
      refine CW.seqJ (fun ρ wl2 => (drain_isTrail_k1 a0 a1 = some res ∧ ρ = [(2, .pointer (some (⟨b1, 0, none⟩))), (3, .pointer (some (⟨b2, 0, none⟩))), (4, .bool false)] ∧ Hp w wl2 [.blk b1 24 [.int .i64 a0.nodes, .int .i64 a0.from_, .int .i64 a0.to_, .slice A_a0_drains a0.drains.length c_a0_drains], .blk b2 79 [.slice A_a1_drains a1.drains.length c_a1_drains, .int .i64 a1.amount]])) ?_ ?_
      ·
        rintro _ wl2 ⟨F, rfl, H⟩
        have R0 := H.ext
        unfold drain_isTrail_k1 at F
        refine CW.seq fun K4 hK4 => ?_
        obtain ⟨x1, hbx1, hx1, F⟩ := ix_some F
        obtain ⟨x2, hbx2, hx2, F⟩ := ix_some F
        obtain ⟨hg1, F⟩ := gd_some F
        obtain ⟨x3, hbx3, hx3, F⟩ := ix_some F
        obtain ⟨x4, hbx4, hx4, F⟩ := ix_some F
        refine CW.draw [] (fun _ => True) (.cons 0 1 (.cons 1 1 (.cons 2 1 (.cons 3 1 (.cons 4 1 (.cons 5 1 (.cons 6 1 (.cons 7 1 (.cons 8 1 (.cons 9 1 (.cons 10 1 (.cons 11 1 (.cons 12 1 (.cons 13 1 (.cons 14 1 (.cons 15 1 (.cons 16 1 (.cons 17 1 (.cons 18 1 (.cons 19 1 (.cons 20 1 (.cons 21 1 (.cons 22 1 (.cons 23 1 .nil)))))))))))))))))))))))) mixed (by kernel_rfl) fun w3 E1 => ?_
        replace H := H.grow E1
        replace R0 := H.ext
        refine DW.fix rfl rfl rfl (fun _ EQ => RV.fieldAddr Tf24_3 rfl) ?_
        refine DW.fix rfl rfl rfl (fun _ EQ => RV.load1 Tk22 rfl (((H.grow EQ).blk 0 rfl).cells.off 3) rfl) ?_
        refine DW.fix rfl rfl rfl (fun _ EQ => RV.fieldAddr Tf79_0 rfl) ?_
        refine DW.fix rfl rfl rfl (fun _ EQ => RV.load1 Tk30 rfl (((H.grow EQ).blk 1 rfl).cells.off 0) rfl) ?_
        refine DW.fix rfl rfl rfl (fun _ EQ => RV.indexAddr Ts30 rfl rfl hbx1 (h_a1_drains.addr_ hx1)) ?_
        refine DW.fix rfl rfl rfl (fun _ EQ => RV.load1 Tk3 rfl ((h_a1_drains.at_ hx1).ext (R0.trans EQ)) rfl) ?_
        refine DW.fix rfl rfl rfl (fun _ EQ => RV.indexAddr Ts22 rfl rfl hbx2 (h_a0_drains.addr_ hx2)) ?_
        refine DW.fix rfl rfl rfl (fun _ EQ => RV.fieldAddr Tf52_0 rfl) ?_
        refine DW.fix rfl rfl rfl (fun _ EQ => RV.load1 Tk3 rfl (((h_a0_drains.at_ hx2).ext (R0.trans EQ)).off 0) rfl) ?_
        refine DW.fix rfl rfl rfl (fun _ EQ => RV.fieldAddr Tf24_3 rfl) ?_
        refine DW.fix rfl rfl rfl (fun _ EQ => RV.load1 Tk22 rfl (((H.grow EQ).blk 0 rfl).cells.off 3) rfl) ?_
        refine DW.fix rfl rfl rfl (fun _ EQ => RV.fieldAddr Tf79_0 rfl) ?_
        refine DW.fix rfl rfl rfl (fun _ EQ => RV.load1 Tk30 rfl (((H.grow EQ).blk 1 rfl).cells.off 0) rfl) ?_
        refine DW.fix rfl rfl rfl (fun _ EQ => RV.fieldAddr Tf79_0 rfl) ?_
        refine DW.fix rfl rfl rfl (fun _ EQ => RV.load1 Tk30 rfl (((H.grow EQ).blk 1 rfl).cells.off 0) rfl) ?_
        refine DW.fix rfl rfl rfl (fun _ EQ => RV.len Ts30 rfl) ?_
        refine DW.fix rfl rfl rfl (fun _ EQ => RV.sub rfl rfl hg1) ?_
        refine DW.fix rfl rfl rfl (fun _ EQ => RV.indexAddr Ts30 rfl rfl hbx3 (h_a1_drains.addr_ hx3)) ?_
        refine DW.fix rfl rfl rfl (fun _ EQ => RV.load1 Tk3 rfl ((h_a1_drains.at_ hx3).ext (R0.trans EQ)) rfl) ?_
        refine DW.fix rfl rfl rfl (fun _ EQ => RV.indexAddr Ts22 rfl rfl hbx4 (h_a0_drains.addr_ hx4)) ?_
        refine DW.fix rfl rfl rfl (fun _ EQ => RV.fieldAddr Tf52_1 rfl) ?_
        refine DW.fix rfl rfl rfl (fun _ EQ => RV.load1 Tk3 rfl (((h_a0_drains.at_ hx4).ext (R0.trans EQ)).off 1) rfl) ?_
        refine DW.fix rfl rfl rfl (fun _ EQ => RV.assign rfl) ?_
        refine DW.fix rfl rfl rfl (fun _ EQ => RV.assign rfl) ?_
        refine DW.nil (hK4 _ _ ?_)
        refine CW.seq fun K5 hK5 => ?_
        by_cases hp2 : x2.from_ = x4.to_
        ·
          replace F := ite_y hp2 F
          have hq2 := dec_t hp2
          refine CW.region ?_
          refine LW.pure rfl rfl (RV.move rfl) ?_
          refine LW.pure rfl rfl (RV.move rfl) ?_
          refine LW.pure rfl rfl (RV.eqi rfl rfl) ?_
          refine LW.pure rfl rfl (RV.move rfl) ?_
          refine LW.noB rfl rfl rfl rfl (ne_beq (v := true) hq2 rfl) ?_
          refine LW.noB rfl rfl rfl rfl (ne_beq (v := true) hq2 rfl) ?_
          refine LW.noB rfl rfl rfl rfl (ne_beq (v := true) hq2 rfl) ?_
          refine LW.noB rfl rfl rfl rfl (ne_beq (v := true) hq2 rfl) ?_
          refine LW.noB rfl rfl rfl rfl (ne_beq (v := true) hq2 rfl) ?_
          refine LW.noU rfl rfl rfl rfl ?_
          refine LW.noU rfl rfl rfl rfl ?_
          refine LW.noU rfl rfl rfl rfl ?_
          refine LW.noU rfl rfl rfl rfl ?_
          refine LW.noB rfl rfl rfl rfl (ne_beq (v := true) hq2 rfl) ?_
          refine LW.pure rfl rfl (RV.pickTB rfl hq2 rfl) ?_
          refine LW.pure rfl rfl (RV.assign rfl) ?_
          refine LW.nil (hK5 _ _ ?_)
          refine CW.ret ?_
          obtain rfl := Option.some.inj F
          refine ⟨_, (ResOK.one rfl), ?_⟩
          refine ⟨(by first | rfl | simp), R0⟩
        ·
          replace F := ite_n hp2 F
          have hq2 := dec_f hp2
          by_cases hp3 : x2.from_ = a0.from_
          ·
            replace F := ite_y hp3 F
            have hq3 := dec_t hp3
            refine CW.region ?_
            refine LW.pure rfl rfl (RV.move rfl) ?_
            refine LW.pure rfl rfl (RV.move rfl) ?_
            refine LW.pure rfl rfl (RV.eqi rfl rfl) ?_
            refine LW.pure rfl rfl (RV.move rfl) ?_
            refine LW.pureYB rfl rfl rfl rfl hq2 (RV.move rfl) ?_
            refine LW.pureYB rfl rfl rfl rfl hq2 (RV.fieldAddr Tf24_1 rfl) ?_
            refine LW.pureYB rfl rfl rfl rfl hq2 (RV.load1 Tk3 rfl ((H.blk 0 rfl).cells.off 1) rfl) ?_
            refine LW.pureYB rfl rfl rfl rfl hq2 (RV.eqi rfl rfl) ?_
            refine LW.pureYB rfl rfl rfl rfl hq2 (RV.move rfl) ?_
            refine LW.pureYB rfl rfl rfl rfl hq3 (RV.move rfl) ?_
            refine LW.pureYB rfl rfl rfl rfl hq3 (RV.fieldAddr Tf24_2 rfl) ?_
            refine LW.pureYB rfl rfl rfl rfl hq3 (RV.load1 Tk3 rfl ((H.blk 0 rfl).cells.off 2) rfl) ?_
            refine LW.pureYB rfl rfl rfl rfl hq3 (RV.eqi rfl rfl) ?_
            refine LW.pureYB rfl rfl rfl rfl hq2 (RV.pickTB rfl hq3 rfl) ?_
            refine LW.pure rfl rfl (RV.pickFB rfl hq2 rfl) ?_
            refine LW.pure rfl rfl (RV.assign rfl) ?_
            refine LW.nil (hK5 _ _ ?_)
            refine CW.ret ?_
            obtain rfl := Option.some.inj F
            refine ⟨_, (ResOK.one rfl), ?_⟩
            refine ⟨(by first | rfl | simp), R0⟩
          ·
            replace F := ite_n hp3 F
            have hq3 := dec_f hp3
            refine CW.region ?_
            refine LW.pure rfl rfl (RV.move rfl) ?_
            refine LW.pure rfl rfl (RV.move rfl) ?_
            refine LW.pure rfl rfl (RV.eqi rfl rfl) ?_
            refine LW.pure rfl rfl (RV.move rfl) ?_
            refine LW.pureYB rfl rfl rfl rfl hq2 (RV.move rfl) ?_
            refine LW.pureYB rfl rfl rfl rfl hq2 (RV.fieldAddr Tf24_1 rfl) ?_
            refine LW.pureYB rfl rfl rfl rfl hq2 (RV.load1 Tk3 rfl ((H.blk 0 rfl).cells.off 1) rfl) ?_
            refine LW.pureYB rfl rfl rfl rfl hq2 (RV.eqi rfl rfl) ?_
            refine LW.pureYB rfl rfl rfl rfl hq2 (RV.move rfl) ?_
            refine LW.noB rfl rfl rfl rfl (ne_beq (v := false) hq3 rfl) ?_
            refine LW.noB rfl rfl rfl rfl (ne_beq (v := false) hq3 rfl) ?_
            refine LW.noB rfl rfl rfl rfl (ne_beq (v := false) hq3 rfl) ?_
            refine LW.noB rfl rfl rfl rfl (ne_beq (v := false) hq3 rfl) ?_
            refine LW.pureYB rfl rfl rfl rfl hq2 (RV.pickFB rfl hq3 rfl) ?_
            refine LW.pure rfl rfl (RV.pickFB rfl hq2 rfl) ?_
            refine LW.pure rfl rfl (RV.assign rfl) ?_
            refine LW.nil (hK5 _ _ ?_)
            refine CW.ret ?_
            obtain rfl := Option.some.inj F
            refine ⟨_, (ResOK.one rfl), ?_⟩
            refine ⟨(by first | rfl | simp), R0⟩
      ·
        intro K6 hK6 jK70
        refine CW.seq fun K7 hK7 => ?_
        refine CW.region ?_
        refine LW.pure rfl rfl (RV.fieldAddr Tf79_0 rfl) ?_
        refine LW.pure rfl rfl (RV.load1 Tk30 rfl ((H.blk 1 rfl).cells.off 0) rfl) ?_
        refine LW.pure rfl rfl (RV.len Ts30 rfl) ?_
        refine LW.pure rfl rfl (RV.move rfl) ?_
        refine LW.nil (hK7 _ _ ?_)
        refine CW.block ?_
        refine CW.loop (fun meas ρ wl3 => ∃ (t22_1 : Int), drain_isTrail_L1 a0 a1 meas t22_1 = some res ∧ ρ = [(2, .pointer (some (⟨b1, 0, none⟩))), (3, .pointer (some (⟨b2, 0, none⟩))), (4, .bool false), (20, .slice A_a1_drains a1.drains.length c_a1_drains), (21, .int .i64 ((a1.drains.length : Int))), (22, .int .i64 t22_1)] ∧ Hp w wl3 [.blk b1 24 [.int .i64 a0.nodes, .int .i64 a0.from_, .int .i64 a0.to_, .slice A_a0_drains a0.drains.length c_a0_drains], .blk b2 79 [.slice A_a1_drains a1.drains.length c_a1_drains, .int .i64 a1.amount]]) FU ⟨_, ?_, ((0 : Int)), F, rfl, H⟩ ?_
        · exact ⟨rfl, rfl, rfl, rfl, rfl, rfl, trivial⟩
        rintro mk1 _ wl3 ⟨t22_1, F, rfl, H⟩
        have R0 := H.ext
        replace F := drain_isTrail_L1_s F
        obtain ⟨mk1, rfl, F⟩ := F
        generalize hrec1 : drain_isTrail_L1 a0 a1 mk1 = rec1 at F
        unfold drain_isTrail_B1 at F
        refine CW.seq fun K8 hK8 => ?_
        refine CW.region ?_
        refine LW.pure rfl rfl (RV.lss rfl rfl) ?_
        refine LW.nil (hK8 _ _ ?_)
        refine CW.seq fun K9 hK9 => ?_
        by_cases hp4 : t22_1 < ((a1.drains.length : Int))
        ·
          replace F := ite_y hp4 F
          have hq4 := dec_t hp4
          refine CW.condT rfl hq4 ?_
          refine CW.skip (hK9 _ _ ?_)
          refine CW.seq fun K10 hK10 => ?_
          refine CW.block ?_
          refine CW.seq fun K11 hK11 => ?_
          obtain ⟨x5, hbx5, hx5, F⟩ := ix_some F
          refine CW.region ?_
          refine LW.pure rfl rfl (RV.move rfl) ?_
          refine LW.pure rfl rfl (RV.indexAddr Ts30 rfl rfl hbx5 (h_a1_drains.addr_ hx5)) ?_
          refine LW.pure rfl rfl (RV.load1 Tk3 rfl ((h_a1_drains.at_ hx5).ext R0) rfl) ?_
          refine LW.pure rfl rfl (RV.assign rfl) ?_
          refine LW.pure rfl rfl (RV.assign rfl) ?_
          refine LW.nil (hK11 _ _ ?_)
          refine CW.seqJ (fun ρ wl4 => (∃ (t65_1 : Bool), drain_isTrail_k2 t22_1 rec1 t65_1 = some res ∧ ρ = [(2, .pointer (some (⟨b1, 0, none⟩))), (3, .pointer (some (⟨b2, 0, none⟩))), (4, .bool false), (20, .slice A_a1_drains a1.drains.length c_a1_drains), (21, .int .i64 ((a1.drains.length : Int))), (22, .int .i64 t22_1), (65, .bool t65_1)] ∧ Hp w wl4 [.blk b1 24 [.int .i64 a0.nodes, .int .i64 a0.from_, .int .i64 a0.to_, .slice A_a0_drains a0.drains.length c_a0_drains], .blk b2 79 [.slice A_a1_drains a1.drains.length c_a1_drains, .int .i64 a1.amount]])) ?_ ?_
          ·
            rintro _ wl4 ⟨t65_1, F, rfl, H⟩
            have R0 := H.ext
            unfold drain_isTrail_k2 at F
            by_cases hp5 : t65_1 = true
            ·
              replace F := ite_y hp5 F
              have hq5 : t65_1 = true := hp5
              refine CW.condT rfl hq5 ?_
              refine CW.seq fun K12 hK12 => ?_
              refine CW.region ?_
              refine LW.pure rfl rfl (RV.assign rfl) ?_
              refine LW.nil (hK12 _ _ ?_)
              refine CW.ret ?_
              obtain rfl := Option.some.inj F
              refine ⟨_, (ResOK.one rfl), ?_⟩
              refine ⟨(by first | rfl | simp), R0⟩
            ·
              replace F := ite_n hp5 F
              have hq5 : t65_1 = false := raw_f hp5
              refine CW.condF rfl hq5 ?_
              refine CW.skip (hK10 _ _ ?_)
              obtain ⟨hg2, F⟩ := gd_some F
              refine CW.region ?_
              refine LW.pure rfl rfl (RV.add rfl rfl hg2) ?_
              refine LW.pure rfl rfl (RV.move rfl) ?_
              refine LW.nil ?_
              subst hrec1
              refine ⟨mk1, Nat.lt_succ_self _, _, ?_, (t22_1 + 1), F, rfl, H⟩
              exact ⟨rfl, rfl, rfl, rfl, rfl, rfl, trivial⟩
          ·
            intro K13 hK13 jK89
            obtain ⟨hg3, F⟩ := gd_some F
            obtain ⟨r1, hr1, F⟩ := bnd_some F
            by_cases hp6 : r1 = true
            ·
              replace F := ite_y hp6 F
              have hq6 : r1 = true := hp6
              obtain ⟨hg4, F⟩ := gd_some F
              obtain ⟨r2, hr2, F⟩ := bnd_some F
              by_cases hp7 : r2 = true
              ·
                replace F := ite_y hp7 F
                have hq7 : r2 = true := hp7
                refine CW.draw [] (fun _ => True) (.cons 0 1 (.cons 1 1 (.cons 2 1 (.cons 3 1 (.cons 4 1 (.cons 5 0 (.cons 6 1 (.cons 7 1 (.cons 8 1 (.cons 9 1 (.cons 10 1 (.cons 11 1 (.cons 12 1 (.cons 13 0 (.cons 14 1 (.cons 15 1 (.cons 16 1 (.cons 17 1 (.cons 18 1 (.cons 19 1 (.cons 20 1 (.cons 21 1 (.cons 22 1 (.cons 23 1 (.cons 24 1 (.cons 25 1 (.cons 26 1 (.cons 27 1 (.cons 28 1 (.cons 29 1 (.cons 30 1 (.cons 31 1 (.cons 32 1 (.cons 33 1 (.cons 34 1 (.cons 35 1 (.cons 36 1 (.cons 37 1 (.cons 38 1 .nil))))))))))))))))))))))))))))))))))))))) mixed (by kernel_rfl) fun w4 E2 => ?_
                replace H := H.grow E2
                replace R0 := H.ext
                refine DW.fix rfl rfl rfl (fun _ EQ => RV.move rfl) ?_
                refine DW.fix rfl rfl rfl (fun _ EQ => RV.fieldAddr Tf24_3 rfl) ?_
                refine DW.fix rfl rfl rfl (fun _ EQ => RV.load1 Tk22 rfl (((H.grow EQ).blk 0 rfl).cells.off 3) rfl) ?_
                refine DW.fix rfl rfl rfl (fun _ EQ => RV.len Ts22 rfl) ?_
                refine DW.fix rfl rfl rfl (fun _ EQ => RV.sub rfl rfl hg3) ?_
                refine DW.sole rfl rfl rfl (OW.call Tc62 rfl (drain_from_ok (a0 := x5) (a1 := (0 : Int)) (a2 := ((a0.drains.length : Int)) - 1) hr1) ?_)
                rintro _ w5 ⟨rfl, E3⟩
                refine ⟨_, rfl, fun _ => E3, ModX.ext E3, ?_⟩
                replace H := H.grow E3
                replace R0 := H.ext
                refine DW.fix rfl rfl rfl (fun _ EQ => RV.not rfl) ?_
                refine DW.fix rfl rfl rfl (fun _ EQ => RV.move rfl) ?_
                refine DW.fixYB rfl rfl rfl rfl rfl (not_f hq6) (fun _ EQ => RV.fieldAddr Tf79_0 rfl) ?_
                refine DW.fixYB rfl rfl rfl rfl rfl (not_f hq6) (fun _ EQ => RV.load1 Tk30 rfl (((H.grow EQ).blk 1 rfl).cells.off 0) rfl) ?_
                refine DW.fixYB rfl rfl rfl rfl rfl (not_f hq6) (fun _ EQ => RV.move rfl) ?_
                refine DW.fixYB rfl rfl rfl rfl rfl (not_f hq6) (fun _ EQ => RV.cutH (l := a1.drains) Ts30 rfl rfl hg4 (h_a1_drains.ext R0).le rfl) ?_
                refine DW.fixYB rfl rfl rfl rfl rfl (not_f hq6) (fun _ EQ => RV.move rfl) ?_
                refine DW.soleYB rfl rfl rfl rfl rfl (not_f hq6) (OW.call Tc65 rfl (slices_Contains_int_ok (a0 := (List.take (Int.toNat t22_1) a1.drains)) (a1 := x5) ((h_a1_drains.ext R0).cutH hg4) hr2) ?_)
                rintro _ w6 ⟨rfl, E4⟩
                refine ⟨_, rfl, fun _ => E4, ModX.ext E4, ?_⟩
                replace H := H.grow E4
                replace R0 := H.ext
                refine DW.fix rfl rfl rfl (fun _ EQ => RV.pickFB rfl (not_f hq6) rfl) ?_
                refine DW.fix rfl rfl rfl (fun _ EQ => RV.move rfl) ?_
                refine DW.fixNB rfl rfl rfl rfl rfl (ne_beq (v := true) hq7 rfl) ?_
                refine DW.fixNB rfl rfl rfl rfl rfl (ne_beq (v := true) hq7 rfl) ?_
                refine DW.fixNB rfl rfl rfl rfl rfl (ne_beq (v := true) hq7 rfl) ?_
                refine DW.fixNU rfl rfl rfl rfl rfl ?_
                refine DW.fixNU rfl rfl rfl rfl rfl ?_
                refine DW.fixNU rfl rfl rfl rfl rfl ?_
                refine DW.fixNU rfl rfl rfl rfl rfl ?_
                refine DW.fixNU rfl rfl rfl rfl rfl ?_
                refine DW.fixNU rfl rfl rfl rfl rfl ?_
                refine DW.fixNU rfl rfl rfl rfl rfl ?_
                refine DW.fixNU rfl rfl rfl rfl rfl ?_
                refine DW.fixNU rfl rfl rfl rfl rfl ?_
                refine DW.fixNU rfl rfl rfl rfl rfl ?_
                refine DW.fixNU rfl rfl rfl rfl rfl ?_
                refine DW.fixNU rfl rfl rfl rfl rfl ?_
                refine DW.fixNU rfl rfl rfl rfl rfl ?_
                refine DW.fixNU rfl rfl rfl rfl rfl ?_
                refine DW.fixNU rfl rfl rfl rfl rfl ?_
                refine DW.fixNU rfl rfl rfl rfl rfl ?_
                refine DW.fixNU rfl rfl rfl rfl rfl ?_
                refine DW.fixNU rfl rfl rfl rfl rfl ?_
                refine DW.fixNB rfl rfl rfl rfl rfl (ne_beq (v := true) hq7 rfl) ?_
                refine DW.fix rfl rfl rfl (fun _ EQ => RV.pickTB rfl hq7 rfl) ?_
                refine DW.nil (jK89 _ _ ⟨_, ?_, ⟨true, F, rfl, H⟩⟩)
                exact ⟨rfl, rfl, rfl, rfl, rfl, rfl, rfl, trivial⟩
              ·
                replace F := ite_n hp7 F
                have hq7 : r2 = false := raw_f hp7
                by_cases hp8 : (0 : Int) < t22_1
                ·
                  replace F := ite_y hp8 F
                  have hq8 := dec_t hp8
                  obtain ⟨hg5, F⟩ := gd_some F
                  obtain ⟨x6, hbx6, hx6, F⟩ := ix_some F
                  obtain ⟨x7, hbx7, hx7, F⟩ := ix_some F
                  obtain ⟨x8, hbx8, hx8, F⟩ := ix_some F
                  refine CW.draw [] (fun _ => True) (.cons 0 1 (.cons 1 1 (.cons 2 1 (.cons 3 1 (.cons 4 1 (.cons 5 0 (.cons 6 1 (.cons 7 1 (.cons 8 1 (.cons 9 1 (.cons 10 1 (.cons 11 1 (.cons 12 1 (.cons 13 0 (.cons 14 1 (.cons 15 1 (.cons 16 1 (.cons 17 1 (.cons 18 1 (.cons 19 1 (.cons 20 1 (.cons 21 1 (.cons 22 1 (.cons 23 1 (.cons 24 1 (.cons 25 1 (.cons 26 1 (.cons 27 1 (.cons 28 1 (.cons 29 1 (.cons 30 1 (.cons 31 1 (.cons 32 1 (.cons 33 1 (.cons 34 1 (.cons 35 1 (.cons 36 1 (.cons 37 1 (.cons 38 1 .nil))))))))))))))))))))))))))))))))))))))) mixed (by kernel_rfl) fun w7 E5 => ?_
                  replace H := H.grow E5
                  replace R0 := H.ext
                  refine DW.fix rfl rfl rfl (fun _ EQ => RV.move rfl) ?_
                  refine DW.fix rfl rfl rfl (fun _ EQ => RV.fieldAddr Tf24_3 rfl) ?_
                  refine DW.fix rfl rfl rfl (fun _ EQ => RV.load1 Tk22 rfl (((H.grow EQ).blk 0 rfl).cells.off 3) rfl) ?_
                  refine DW.fix rfl rfl rfl (fun _ EQ => RV.len Ts22 rfl) ?_
                  refine DW.fix rfl rfl rfl (fun _ EQ => RV.sub rfl rfl hg3) ?_
                  refine DW.sole rfl rfl rfl (OW.call Tc62 rfl (drain_from_ok (a0 := x5) (a1 := (0 : Int)) (a2 := ((a0.drains.length : Int)) - 1) hr1) ?_)
                  rintro _ w8 ⟨rfl, E6⟩
                  refine ⟨_, rfl, fun _ => E6, ModX.ext E6, ?_⟩
                  replace H := H.grow E6
                  replace R0 := H.ext
                  refine DW.fix rfl rfl rfl (fun _ EQ => RV.not rfl) ?_
                  refine DW.fix rfl rfl rfl (fun _ EQ => RV.move rfl) ?_
                  refine DW.fixYB rfl rfl rfl rfl rfl (not_f hq6) (fun _ EQ => RV.fieldAddr Tf79_0 rfl) ?_
                  refine DW.fixYB rfl rfl rfl rfl rfl (not_f hq6) (fun _ EQ => RV.load1 Tk30 rfl (((H.grow EQ).blk 1 rfl).cells.off 0) rfl) ?_
                  refine DW.fixYB rfl rfl rfl rfl rfl (not_f hq6) (fun _ EQ => RV.move rfl) ?_
                  refine DW.fixYB rfl rfl rfl rfl rfl (not_f hq6) (fun _ EQ => RV.cutH (l := a1.drains) Ts30 rfl rfl hg4 (h_a1_drains.ext R0).le rfl) ?_
                  refine DW.fixYB rfl rfl rfl rfl rfl (not_f hq6) (fun _ EQ => RV.move rfl) ?_
                  refine DW.soleYB rfl rfl rfl rfl rfl (not_f hq6) (OW.call Tc65 rfl (slices_Contains_int_ok (a0 := (List.take (Int.toNat t22_1) a1.drains)) (a1 := x5) ((h_a1_drains.ext R0).cutH hg4) hr2) ?_)
                  rintro _ w9 ⟨rfl, E7⟩
                  refine ⟨_, rfl, fun _ => E7, ModX.ext E7, ?_⟩
                  replace H := H.grow E7
                  replace R0 := H.ext
                  refine DW.fix rfl rfl rfl (fun _ EQ => RV.pickFB rfl (not_f hq6) rfl) ?_
                  refine DW.fix rfl rfl rfl (fun _ EQ => RV.move rfl) ?_
                  refine DW.fixYB rfl rfl rfl rfl rfl hq7 (fun _ EQ => RV.move rfl) ?_
                  refine DW.fixYB rfl rfl rfl rfl rfl hq7 (fun _ EQ => RV.gtr rfl rfl) ?_
                  refine DW.fixYB rfl rfl rfl rfl rfl hq7 (fun _ EQ => RV.move rfl) ?_
                  refine DW.fixYB rfl rfl rfl rfl rfl hq8 (fun _ EQ => RV.fieldAddr Tf24_3 rfl) ?_
                  refine DW.fixYB rfl rfl rfl rfl rfl hq8 (fun _ EQ => RV.load1 Tk22 rfl (((H.grow EQ).blk 0 rfl).cells.off 3) rfl) ?_
                  refine DW.fixYB rfl rfl rfl rfl rfl hq8 (fun _ EQ => RV.fieldAddr Tf79_0 rfl) ?_
                  refine DW.fixYB rfl rfl rfl rfl rfl hq8 (fun _ EQ => RV.load1 Tk30 rfl (((H.grow EQ).blk 1 rfl).cells.off 0) rfl) ?_
                  refine DW.fixYB rfl rfl rfl rfl rfl hq8 (fun _ EQ => RV.move rfl) ?_
                  refine DW.fixYB rfl rfl rfl rfl rfl hq8 (fun _ EQ => RV.sub rfl rfl hg5) ?_
                  refine DW.fixYB rfl rfl rfl rfl rfl hq8 (fun _ EQ => RV.indexAddr Ts30 rfl rfl hbx6 (h_a1_drains.addr_ hx6)) ?_
                  refine DW.fixYB rfl rfl rfl rfl rfl hq8 (fun _ EQ => RV.load1 Tk3 rfl ((h_a1_drains.at_ hx6).ext (R0.trans EQ)) rfl) ?_
                  refine DW.fixYB rfl rfl rfl rfl rfl hq8 (fun _ EQ => RV.indexAddr Ts22 rfl rfl hbx7 (h_a0_drains.addr_ hx7)) ?_
                  refine DW.fixYB rfl rfl rfl rfl rfl hq8 (fun _ EQ => RV.fieldAddr Tf52_1 rfl) ?_
                  refine DW.fixYB rfl rfl rfl rfl rfl hq8 (fun _ EQ => RV.load1 Tk3 rfl (((h_a0_drains.at_ hx7).ext (R0.trans EQ)).off 1) rfl) ?_
                  refine DW.fixYB rfl rfl rfl rfl rfl hq8 (fun _ EQ => RV.fieldAddr Tf24_3 rfl) ?_
                  refine DW.fixYB rfl rfl rfl rfl rfl hq8 (fun _ EQ => RV.load1 Tk22 rfl (((H.grow EQ).blk 0 rfl).cells.off 3) rfl) ?_
                  refine DW.fixYB rfl rfl rfl rfl rfl hq8 (fun _ EQ => RV.move rfl) ?_
                  refine DW.fixYB rfl rfl rfl rfl rfl hq8 (fun _ EQ => RV.indexAddr Ts22 rfl rfl hbx8 (h_a0_drains.addr_ hx8)) ?_
                  refine DW.fixYB rfl rfl rfl rfl rfl hq8 (fun _ EQ => RV.fieldAddr Tf52_0 rfl) ?_
                  refine DW.fixYB rfl rfl rfl rfl rfl hq8 (fun _ EQ => RV.load1 Tk3 rfl (((h_a0_drains.at_ hx8).ext (R0.trans EQ)).off 0) rfl) ?_
                  refine DW.fixYB rfl rfl rfl rfl rfl hq8 (fun _ EQ => RV.nei rfl rfl) ?_
                  refine DW.fixYB rfl rfl rfl rfl rfl hq7 (fun _ EQ => RV.pickTB rfl hq8 rfl) ?_
                  refine DW.fix rfl rfl rfl (fun _ EQ => RV.pickFB rfl hq7 rfl) ?_
                  refine DW.nil (jK89 _ _ ⟨_, ?_, ⟨(!(decide (x7.to_ = x8.from_))), F, rfl, H⟩⟩)
                  exact ⟨rfl, rfl, rfl, rfl, rfl, rfl, rfl, trivial⟩
                ·
                  replace F := ite_n hp8 F
                  have hq8 := dec_f hp8
                  refine CW.draw [] (fun _ => True) (.cons 0 1 (.cons 1 1 (.cons 2 1 (.cons 3 1 (.cons 4 1 (.cons 5 0 (.cons 6 1 (.cons 7 1 (.cons 8 1 (.cons 9 1 (.cons 10 1 (.cons 11 1 (.cons 12 1 (.cons 13 0 (.cons 14 1 (.cons 15 1 (.cons 16 1 (.cons 17 1 (.cons 18 1 (.cons 19 1 (.cons 20 1 (.cons 21 1 (.cons 22 1 (.cons 23 1 (.cons 24 1 (.cons 25 1 (.cons 26 1 (.cons 27 1 (.cons 28 1 (.cons 29 1 (.cons 30 1 (.cons 31 1 (.cons 32 1 (.cons 33 1 (.cons 34 1 (.cons 35 1 (.cons 36 1 (.cons 37 1 (.cons 38 1 .nil))))))))))))))))))))))))))))))))))))))) mixed (by kernel_rfl) fun w10 E8 => ?_
                  replace H := H.grow E8
                  replace R0 := H.ext
                  refine DW.fix rfl rfl rfl (fun _ EQ => RV.move rfl) ?_
                  refine DW.fix rfl rfl rfl (fun _ EQ => RV.fieldAddr Tf24_3 rfl) ?_
                  refine DW.fix rfl rfl rfl (fun _ EQ => RV.load1 Tk22 rfl (((H.grow EQ).blk 0 rfl).cells.off 3) rfl) ?_
                  refine DW.fix rfl rfl rfl (fun _ EQ => RV.len Ts22 rfl) ?_
                  refine DW.fix rfl rfl rfl (fun _ EQ => RV.sub rfl rfl hg3) ?_
                  refine DW.sole rfl rfl rfl (OW.call Tc62 rfl (drain_from_ok (a0 := x5) (a1 := (0 : Int)) (a2 := ((a0.drains.length : Int)) - 1) hr1) ?_)
                  rintro _ w11 ⟨rfl, E9⟩
                  refine ⟨_, rfl, fun _ => E9, ModX.ext E9, ?_⟩
                  replace H := H.grow E9
                  replace R0 := H.ext
                  refine DW.fix rfl rfl rfl (fun _ EQ => RV.not rfl) ?_
                  refine DW.fix rfl rfl rfl (fun _ EQ => RV.move rfl) ?_
                  refine DW.fixYB rfl rfl rfl rfl rfl (not_f hq6) (fun _ EQ => RV.fieldAddr Tf79_0 rfl) ?_
                  refine DW.fixYB rfl rfl rfl rfl rfl (not_f hq6) (fun _ EQ => RV.load1 Tk30 rfl (((H.grow EQ).blk 1 rfl).cells.off 0) rfl) ?_
                  refine DW.fixYB rfl rfl rfl rfl rfl (not_f hq6) (fun _ EQ => RV.move rfl) ?_
                  refine DW.fixYB rfl rfl rfl rfl rfl (not_f hq6) (fun _ EQ => RV.cutH (l := a1.drains) Ts30 rfl rfl hg4 (h_a1_drains.ext R0).le rfl) ?_
                  refine DW.fixYB rfl rfl rfl rfl rfl (not_f hq6) (fun _ EQ => RV.move rfl) ?_
                  refine DW.soleYB rfl rfl rfl rfl rfl (not_f hq6) (OW.call Tc65 rfl (slices_Contains_int_ok (a0 := (List.take (Int.toNat t22_1) a1.drains)) (a1 := x5) ((h_a1_drains.ext R0).cutH hg4) hr2) ?_)
                  rintro _ w12 ⟨rfl, E10⟩
                  refine ⟨_, rfl, fun _ => E10, ModX.ext E10, ?_⟩
                  replace H := H.grow E10
                  replace R0 := H.ext
                  refine DW.fix rfl rfl rfl (fun _ EQ => RV.pickFB rfl (not_f hq6) rfl) ?_
                  refine DW.fix rfl rfl rfl (fun _ EQ => RV.move rfl) ?_
                  refine DW.fixYB rfl rfl rfl rfl rfl hq7 (fun _ EQ => RV.move rfl) ?_
                  refine DW.fixYB rfl rfl rfl rfl rfl hq7 (fun _ EQ => RV.gtr rfl rfl) ?_
                  refine DW.fixYB rfl rfl rfl rfl rfl hq7 (fun _ EQ => RV.move rfl) ?_
                  refine DW.fixNB rfl rfl rfl rfl rfl (ne_beq (v := false) hq8 rfl) ?_
                  refine DW.fixNB rfl rfl rfl rfl rfl (ne_beq (v := false) hq8 rfl) ?_
                  refine DW.fixNB rfl rfl rfl rfl rfl (ne_beq (v := false) hq8 rfl) ?_
                  refine DW.fixNB rfl rfl rfl rfl rfl (ne_beq (v := false) hq8 rfl) ?_
                  refine DW.fixNB rfl rfl rfl rfl rfl (ne_beq (v := false) hq8 rfl) ?_
                  refine DW.fixNB rfl rfl rfl rfl rfl (ne_beq (v := false) hq8 rfl) ?_
                  refine DW.fixNB rfl rfl rfl rfl rfl (ne_beq (v := false) hq8 rfl) ?_
                  refine DW.fixNB rfl rfl rfl rfl rfl (ne_beq (v := false) hq8 rfl) ?_
                  refine DW.fixNB rfl rfl rfl rfl rfl (ne_beq (v := false) hq8 rfl) ?_
                  refine DW.fixNB rfl rfl rfl rfl rfl (ne_beq (v := false) hq8 rfl) ?_
                  refine DW.fixNB rfl rfl rfl rfl rfl (ne_beq (v := false) hq8 rfl) ?_
                  refine DW.fixNB rfl rfl rfl rfl rfl (ne_beq (v := false) hq8 rfl) ?_
                  refine DW.fixNB rfl rfl rfl rfl rfl (ne_beq (v := false) hq8 rfl) ?_
                  refine DW.fixNB rfl rfl rfl rfl rfl (ne_beq (v := false) hq8 rfl) ?_
                  refine DW.fixNB rfl rfl rfl rfl rfl (ne_beq (v := false) hq8 rfl) ?_
                  refine DW.fixNB rfl rfl rfl rfl rfl (ne_beq (v := false) hq8 rfl) ?_
                  refine DW.fixNB rfl rfl rfl rfl rfl (ne_beq (v := false) hq8 rfl) ?_
                  refine DW.fixNB rfl rfl rfl rfl rfl (ne_beq (v := false) hq8 rfl) ?_
                  refine DW.fixYB rfl rfl rfl rfl rfl hq7 (fun _ EQ => RV.pickFB rfl hq8 rfl) ?_
                  refine DW.fix rfl rfl rfl (fun _ EQ => RV.pickFB rfl hq7 rfl) ?_
                  refine DW.nil (jK89 _ _ ⟨_, ?_, ⟨false, F, rfl, H⟩⟩)
                  exact ⟨rfl, rfl, rfl, rfl, rfl, rfl, rfl, trivial⟩
            ·
              replace F := ite_n hp6 F
              have hq6 : r1 = false := raw_f hp6
              refine CW.draw [] (fun _ => True) (.cons 0 1 (.cons 1 1 (.cons 2 1 (.cons 3 1 (.cons 4 1 (.cons 5 0 (.cons 6 1 (.cons 7 1 (.cons 8 1 (.cons 9 1 (.cons 10 1 (.cons 11 1 (.cons 12 1 (.cons 13 0 (.cons 14 1 (.cons 15 1 (.cons 16 1 (.cons 17 1 (.cons 18 1 (.cons 19 1 (.cons 20 1 (.cons 21 1 (.cons 22 1 (.cons 23 1 (.cons 24 1 (.cons 25 1 (.cons 26 1 (.cons 27 1 (.cons 28 1 (.cons 29 1 (.cons 30 1 (.cons 31 1 (.cons 32 1 (.cons 33 1 (.cons 34 1 (.cons 35 1 (.cons 36 1 (.cons 37 1 (.cons 38 1 .nil))))))))))))))))))))))))))))))))))))))) mixed (by kernel_rfl) fun w13 E11 => ?_
              replace H := H.grow E11
              replace R0 := H.ext
              refine DW.fix rfl rfl rfl (fun _ EQ => RV.move rfl) ?_
              refine DW.fix rfl rfl rfl (fun _ EQ => RV.fieldAddr Tf24_3 rfl) ?_
              refine DW.fix rfl rfl rfl (fun _ EQ => RV.load1 Tk22 rfl (((H.grow EQ).blk 0 rfl).cells.off 3) rfl) ?_
              refine DW.fix rfl rfl rfl (fun _ EQ => RV.len Ts22 rfl) ?_
              refine DW.fix rfl rfl rfl (fun _ EQ => RV.sub rfl rfl hg3) ?_
              refine DW.sole rfl rfl rfl (OW.call Tc62 rfl (drain_from_ok (a0 := x5) (a1 := (0 : Int)) (a2 := ((a0.drains.length : Int)) - 1) hr1) ?_)
              rintro _ w14 ⟨rfl, E12⟩
              refine ⟨_, rfl, fun _ => E12, ModX.ext E12, ?_⟩
              replace H := H.grow E12
              replace R0 := H.ext
              refine DW.fix rfl rfl rfl (fun _ EQ => RV.not rfl) ?_
              refine DW.fix rfl rfl rfl (fun _ EQ => RV.move rfl) ?_
              refine DW.fixNB rfl rfl rfl rfl rfl (ne_beq (v := true) (not_t hq6) rfl) ?_
              refine DW.fixNB rfl rfl rfl rfl rfl (ne_beq (v := true) (not_t hq6) rfl) ?_
              refine DW.fixNB rfl rfl rfl rfl rfl (ne_beq (v := true) (not_t hq6) rfl) ?_
              refine DW.fixNB rfl rfl rfl rfl rfl (ne_beq (v := true) (not_t hq6) rfl) ?_
              refine DW.fixNB rfl rfl rfl rfl rfl (ne_beq (v := true) (not_t hq6) rfl) ?_
              refine DW.soleNB rfl rfl rfl rfl rfl (ne_beq (v := true) (not_t hq6) rfl) ?_
              refine DW.fix rfl rfl rfl (fun _ EQ => RV.pickTB rfl (not_t hq6) rfl) ?_
              refine DW.fix rfl rfl rfl (fun _ EQ => RV.move rfl) ?_
              refine DW.fixNB rfl rfl rfl rfl rfl (ne_beq (v := true) rfl rfl) ?_
              refine DW.fixNB rfl rfl rfl rfl rfl (ne_beq (v := true) rfl rfl) ?_
              refine DW.fixNB rfl rfl rfl rfl rfl (ne_beq (v := true) rfl rfl) ?_
              refine DW.fixNU rfl rfl rfl rfl rfl ?_
              refine DW.fixNU rfl rfl rfl rfl rfl ?_
              refine DW.fixNU rfl rfl rfl rfl rfl ?_
              refine DW.fixNU rfl rfl rfl rfl rfl ?_
              refine DW.fixNU rfl rfl rfl rfl rfl ?_
              refine DW.fixNU rfl rfl rfl rfl rfl ?_
              refine DW.fixNU rfl rfl rfl rfl rfl ?_
              refine DW.fixNU rfl rfl rfl rfl rfl ?_
              refine DW.fixNU rfl rfl rfl rfl rfl ?_
              refine DW.fixNU rfl rfl rfl rfl rfl ?_
              refine DW.fixNU rfl rfl rfl rfl rfl ?_
              refine DW.fixNU rfl rfl rfl rfl rfl ?_
              refine DW.fixNU rfl rfl rfl rfl rfl ?_
              refine DW.fixNU rfl rfl rfl rfl rfl ?_
              refine DW.fixNU rfl rfl rfl rfl rfl ?_
              refine DW.fixNU rfl rfl rfl rfl rfl ?_
              refine DW.fixNU rfl rfl rfl rfl rfl ?_
              refine DW.fixNU rfl rfl rfl rfl rfl ?_
              refine DW.fixNB rfl rfl rfl rfl rfl (ne_beq (v := true) rfl rfl) ?_
              refine DW.fix rfl rfl rfl (fun _ EQ => RV.pickTB rfl rfl rfl) ?_
              refine DW.nil (jK89 _ _ ⟨_, ?_, ⟨true, F, rfl, H⟩⟩)
              exact ⟨rfl, rfl, rfl, rfl, rfl, rfl, rfl, trivial⟩
        ·
          replace F := ite_n hp4 F
          have hq4 := dec_f hp4
          refine CW.condF rfl hq4 ?_
          refine CW.exit (jK70 _ _ ⟨_, ?_, ⟨F, rfl, H⟩⟩)
          exact ⟨rfl, rfl, rfl, trivial⟩
  ·
    intro K14 hK14 jK90
    by_cases hp9 : ((a1.drains.length : Int)) = 0
    ·
      replace F := ite_y hp9 F
      have hq9 := dec_t hp9
      refine CW.region ?_
      refine LW.pure rfl rfl (RV.fieldAddr Tf79_0 rfl) ?_
      refine LW.pure rfl rfl (RV.load1 Tk30 rfl ((H.blk 0 rfl).cells.off 0) rfl) ?_
      refine LW.pure rfl rfl (RV.len Ts30 rfl) ?_
      refine LW.pure rfl rfl (RV.eqi rfl rfl) ?_
      refine LW.pure rfl rfl (RV.move rfl) ?_
      refine LW.noB rfl rfl rfl rfl (ne_beq (v := true) hq9 rfl) ?_
      refine LW.noB rfl rfl rfl rfl (ne_beq (v := true) hq9 rfl) ?_
      refine LW.noB rfl rfl rfl rfl (ne_beq (v := true) hq9 rfl) ?_
      refine LW.noB rfl rfl rfl rfl (ne_beq (v := true) hq9 rfl) ?_
      refine LW.pure rfl rfl (RV.pickTB rfl hq9 rfl) ?_
      replace H := H.pick (L' := [.blk b1 24 [.int .i64 a0.nodes, .int .i64 a0.from_, .int .i64 a0.to_, .slice A_a0_drains a0.drains.length c_a0_drains], .blk b2 79 [.slice A_a1_drains a1.drains.length c_a1_drains, .int .i64 a1.amount]]) [1, 0] (by decide) rfl
      replace R0 := H.ext
      refine LW.nil (jK90 _ _ ⟨_, ?_, ⟨true, F, rfl, H⟩⟩)
      exact ⟨rfl, rfl, rfl, rfl, trivial⟩
    ·
      replace F := ite_n hp9 F
      have hq9 := dec_f hp9
      obtain ⟨r3, hr3, F⟩ := bnd_some F
      refine CW.region ?_
      refine LW.pure rfl rfl (RV.fieldAddr Tf79_0 rfl) ?_
      refine LW.pure rfl rfl (RV.load1 Tk30 rfl ((H.blk 0 rfl).cells.off 0) rfl) ?_
      refine LW.pure rfl rfl (RV.len Ts30 rfl) ?_
      refine LW.pure rfl rfl (RV.eqi rfl rfl) ?_
      refine LW.pure rfl rfl (RV.move rfl) ?_
      refine LW.pureYB rfl rfl rfl rfl hq9 (RV.fieldAddr Tf79_1 rfl) ?_
      refine LW.pureYB rfl rfl rfl rfl hq9 (RV.load1 Tk3 rfl ((H.blk 0 rfl).cells.off 1) rfl) ?_
      refine LW.yesB rfl rfl rfl rfl hq9 (OW.call Tc62 rfl (drain_from_ok (a0 := a1.amount) (a1 := (1 : Int)) (a2 := (20 : Int)) hr3) ?_)
      rintro _ w15 ⟨rfl, E13⟩
      refine ⟨_, rfl, ?_⟩
      replace H := H.grow E13
      replace R0 := H.ext
      refine LW.pureYB rfl rfl rfl rfl hq9 (RV.not rfl) ?_
      refine LW.pure rfl rfl (RV.pickFB rfl hq9 rfl) ?_
      replace H := H.pick (L' := [.blk b1 24 [.int .i64 a0.nodes, .int .i64 a0.from_, .int .i64 a0.to_, .slice A_a0_drains a0.drains.length c_a0_drains], .blk b2 79 [.slice A_a1_drains a1.drains.length c_a1_drains, .int .i64 a1.amount]]) [1, 0] (by decide) rfl
      replace R0 := H.ext
      refine LW.nil (jK90 _ _ ⟨_, ?_, ⟨(!r3), F, rfl, H⟩⟩)
      exact ⟨rfl, rfl, rfl, rfl, trivial⟩
set_option maxRecDepth 20000 in
set_option maxHeartbeats 1000000 in
theorem drain_Sum_ok {a0 : Net} {a1 : List Trail} {A_a0_drains : Option Addr} {c_a0_drains : Nat} {A_a1 : Option Addr} {c_a1 : Nat} {w : World} {res : (List Int) × Int} (h_a0_drains : Sl w A_a0_drains c_a0_drains 3 (a0.drains.map encDrain)) (h_a1 : SlT w A_a1 c_a1 2 encTrail (fun x => x.drains) 1 encN a1) (F : drain_Sum a0 a1 = some res) : Calls Try.prog 38 #[.agg #[.int .i64 a0.nodes, .int .i64 a0.from_, .int .i64 a0.to_, .slice A_a0_drains a0.drains.length c_a0_drains], .slice A_a1 a1.length c_a1] w (fun e w' => ∃ (A1 : Option Addr) (c1 : Nat), e = .returned (.tuple #[.slice A1 res.1.length c1, .int .i64 res.2]) ∧ Hp w w' [.own A1 c1 3 1 (List.map encN res.1)]) := by
  refine calls_of_cw (args := [.agg #[.int .i64 a0.nodes, .int .i64 a0.from_, .int .i64 a0.to_, .slice A_a0_drains a0.drains.length c_a0_drains], .slice A_a1 a1.length c_a1]) Try.func38 rfl rfl rfl rfl ?_
  have H := Hp.start w
  have R0 := H.ext
  unfold drain_Sum at F
  refine CW.seq fun K1 hK1 => ?_
  refine CW.region ?_
  refine LW.go rfl rfl (OW.box rfl fun b1 w1 N1 => ?_)
  replace H := H.new N1 N1.blk
  replace R0 := H.ext
  refine LW.pure rfl rfl (RV.assign rfl) ?_
  refine LW.pure rfl rfl (RV.assign rfl) ?_
  refine LW.nil (hK1 _ _ ?_)
  refine CW.seq fun K2 hK2 => ?_
  refine CW.seq fun K3 hK3 => ?_
  obtain ⟨r2, hr2, F⟩ := bnd_some F
  refine CW.region ?_
  refine LW.pure rfl rfl (RV.loadA [.int .i64 a0.nodes, .int .i64 a0.from_, .int .i64 a0.to_, .slice A_a0_drains a0.drains.length c_a0_drains] Tk24 rfl (H.blk 0 rfl).cells rfl rfl) ?_
  refine LW.go rfl rfl (OW.call Tc26 rfl (drain_Validate_ok (a0 := a0) (h_a0_drains.ext R0) hr2) ?_)
  rintro _ w2 ⟨rfl, E1⟩
  refine ⟨_, rfl, ?_⟩
  replace H := H.grow E1
  replace R0 := H.ext
  refine LW.pure rfl rfl (RV.assign rfl) ?_
  refine LW.nil (hK3 _ _ ?_)
  refine CW.seq fun K4 hK4 => ?_
  refine CW.region ?_
  refine LW.pure rfl rfl (RV.move rfl) ?_
  refine LW.pure rfl rfl (RV.nei rfl rfl) ?_
  refine LW.nil (hK4 _ _ ?_)
  by_cases hp1 : r2 = 0
  ·
    replace F := ite_y hp1 F
    have hq1 := dec_t hp1
    refine CW.condF rfl (not_f hq1) ?_
    refine CW.skip (hK2 _ _ ?_)
    refine CW.seq fun K5 hK5 => ?_
    refine CW.seq fun K6 hK6 => ?_
    refine CW.region ?_
    refine LW.pure rfl rfl (RV.move rfl) ?_
    refine LW.pure rfl rfl (RV.len Ts45 rfl) ?_
    refine LW.pure rfl rfl (RV.gtr rfl rfl) ?_
    refine LW.nil (hK6 _ _ ?_)
    by_cases hp2 : (40 : Int) < ((a1.length : Int))
    ·
      replace F := ite_y hp2 F
      have hq2 := dec_t hp2
      refine CW.condT rfl hq2 ?_
      refine CW.seq fun K7 hK7 => ?_
      refine CW.region ?_
      refine LW.pure rfl rfl (RV.assign rfl) ?_
      refine LW.pure rfl rfl (RV.assign rfl) ?_
      refine LW.nil (hK7 _ _ ?_)
      refine CW.ret ?_
      obtain rfl := Option.some.inj F
      refine ⟨_, (ResOK.two rfl rfl), ?_⟩
      replace H := H.nilOwn 3 1
      replace R0 := H.ext
      replace H := H.pick (L' := [.own none 0 3 1 (List.map encN (([] : List Int)))]) [0] (by decide) rfl
      replace R0 := H.ext
      exact ⟨none, 0, (by first | rfl | (simp; done) | (simp; omega)), H⟩
    ·
      replace F := ite_n hp2 F
      have hq2 := dec_f hp2
      refine CW.condF rfl hq2 ?_
      refine CW.skip (hK5 _ _ ?_)
      refine CW.seq fun K8 hK8 => ?_
      obtain ⟨hg1, F⟩ := gd_some F
      refine CW.region ?_
      refine LW.pure rfl rfl (RV.fieldAddr Tf24_3 rfl) ?_
      refine LW.pure rfl rfl (RV.load1 Tk22 rfl ((H.blk 0 rfl).cells.off 3) rfl) ?_
      refine LW.pure rfl rfl (RV.len Ts22 rfl) ?_
      refine LW.go rfl rfl (OW.makeR (enc := encN) (0 : Int) Ts30 rfl rfl rfl rfl rfl hg1 (by decide) fun b2 w3 N2 => ?_)
      replace H := H.made' (k := 1) (t := 3) (enc := encN) (l := (List.replicate (Int.toNat ((a0.drains.length : Int))) (0 : Int))) N2 N2.blk (fun _ => rfl) rfl (by first | decide | omega | (simp; done) | (simp; omega))
      replace R0 := H.ext
      refine LW.pure rfl rfl (RV.assign rfl) ?_
      refine LW.nil (hK8 _ _ ?_)
      refine CW.seqJ (fun ρ wl1 => (∃ (l1 : List Int), drain_Sum_k1 l1 = some res ∧ ρ = [(4, .slice none 0 0), (5, .int .i64 0), (7, .slice (some ⟨b2, 0, none⟩) l1.length (((List.replicate (Int.toNat ((a0.drains.length : Int))) (0 : Int))).length))] ∧ Hp w wl1 [.own (some ⟨b2, 0, none⟩) (((List.replicate (Int.toNat ((a0.drains.length : Int))) (0 : Int))).length) 3 1 (List.map encN l1)])) ?_ ?_
      ·
        rintro _ wl1 ⟨l1, F, rfl, H⟩
        have R0 := H.ext
        unfold drain_Sum_k1 at F
        refine CW.seq fun K9 hK9 => ?_
        refine CW.region ?_
        refine LW.pure rfl rfl (RV.move rfl) ?_
        refine LW.pure rfl rfl (RV.assign rfl) ?_
        refine LW.pure rfl rfl (RV.assign rfl) ?_
        refine LW.nil (hK9 _ _ ?_)
        refine CW.ret ?_
        obtain rfl := Option.some.inj F
        refine ⟨_, (ResOK.two rfl rfl), ?_⟩
        exact ⟨(some ⟨b2, 0, none⟩), (((List.replicate (Int.toNat ((a0.drains.length : Int))) (0 : Int))).length), (by first | rfl | (simp; done) | (simp; omega)), H⟩
      ·
        intro K10 hK10 jK357
        refine CW.seq fun K11 hK11 => ?_
        refine CW.region ?_
        refine LW.pure rfl rfl (RV.move rfl) ?_
        refine LW.pure rfl rfl (RV.len Ts45 rfl) ?_
        refine LW.pure rfl rfl (RV.move rfl) ?_
        refine LW.nil (hK11 _ _ ?_)
        refine CW.block ?_
        refine CW.loop (fun meas ρ wl2 => ∃ (t26_1 : Int) (l4 : List Int), drain_Sum_L2 a0 a1 meas t26_1 l4 = some res ∧ ρ = [(2, .pointer (some (⟨b1, 0, none⟩))), (4, .slice none 0 0), (5, .int .i64 0), (7, .slice (some ⟨b2, 0, none⟩) l4.length (((List.replicate (Int.toNat ((a0.drains.length : Int))) (0 : Int))).length)), (24, .slice A_a1 a1.length c_a1), (25, .int .i64 ((a1.length : Int))), (26, .int .i64 t26_1)] ∧ Hp w wl2 [.own (some ⟨b2, 0, none⟩) (((List.replicate (Int.toNat ((a0.drains.length : Int))) (0 : Int))).length) 3 1 (List.map encN l4), .blk b1 24 [.int .i64 a0.nodes, .int .i64 a0.from_, .int .i64 a0.to_, .slice A_a0_drains a0.drains.length c_a0_drains]]) FU ⟨_, ?_, ((0 : Int)), ((List.replicate (Int.toNat ((a0.drains.length : Int))) (0 : Int))), F, rfl, H⟩ ?_
        · exact ⟨rfl, rfl, rfl, (look_slice rfl (by first | rfl | (simp; done) | (simp; omega))), rfl, rfl, rfl, trivial⟩
        rintro mk1 _ wl2 ⟨t26_1, l4, F, rfl, H⟩
        have R0 := H.ext
        replace F := drain_Sum_L2_s F
        obtain ⟨mk1, rfl, F⟩ := F
        generalize hrec1 : drain_Sum_L2 a0 a1 mk1 = rec1 at F
        unfold drain_Sum_B2 at F
        refine CW.seq fun K12 hK12 => ?_
        refine CW.region ?_
        refine LW.pure rfl rfl (RV.lss rfl rfl) ?_
        refine LW.nil (hK12 _ _ ?_)
        refine CW.seq fun K13 hK13 => ?_
        by_cases hp3 : t26_1 < ((a1.length : Int))
        ·
          replace F := ite_y hp3 F
          have hq3 := dec_t hp3
          refine CW.condT rfl hq3 ?_
          refine CW.skip (hK13 _ _ ?_)
          refine CW.seqJ (fun ρ wl3 => (∃ (l2 : List Int), drain_Sum_k2 t26_1 rec1 l2 = some res ∧ ρ = [(2, .pointer (some (⟨b1, 0, none⟩))), (4, .slice none 0 0), (5, .int .i64 0), (7, .slice (some ⟨b2, 0, none⟩) l2.length (((List.replicate (Int.toNat ((a0.drains.length : Int))) (0 : Int))).length)), (24, .slice A_a1 a1.length c_a1), (25, .int .i64 ((a1.length : Int))), (26, .int .i64 t26_1)] ∧ Hp w wl3 [.own (some ⟨b2, 0, none⟩) (((List.replicate (Int.toNat ((a0.drains.length : Int))) (0 : Int))).length) 3 1 (List.map encN l2), .blk b1 24 [.int .i64 a0.nodes, .int .i64 a0.from_, .int .i64 a0.to_, .slice A_a0_drains a0.drains.length c_a0_drains]])) ?_ ?_
          ·
            rintro _ wl3 ⟨l2, F, rfl, H⟩
            have R0 := H.ext
            unfold drain_Sum_k2 at F
            obtain ⟨hg2, F⟩ := gd_some F
            refine CW.region ?_
            refine LW.pure rfl rfl (RV.add rfl rfl hg2) ?_
            refine LW.pure rfl rfl (RV.move rfl) ?_
            refine LW.nil ?_
            subst hrec1
            refine ⟨mk1, Nat.lt_succ_self _, _, ?_, (t26_1 + 1), l2, F, rfl, H⟩
            exact ⟨rfl, rfl, rfl, (look_slice rfl (by first | rfl | (simp; done) | (simp; omega))), rfl, rfl, rfl, trivial⟩
          ·
            intro K14 hK14 jK452
            refine CW.block ?_
            refine CW.seq fun K15 hK15 => ?_
            obtain ⟨x1, hbx1, hx1, F⟩ := ix_some F
            refine CW.region ?_
            obtain ⟨A2, c2, hC1, hS1⟩ := h_a1.at_ hx1
            refine LW.pure rfl rfl (RV.indexAddr Ts45 rfl rfl hbx1 (h_a1.addr hbx1)) ?_
            refine LW.pure rfl rfl (RV.loadA [.slice A2 x1.drains.length c2, .int .i64 x1.amount] Tk79 rfl (hC1.ext R0) rfl rfl) ?_
            refine LW.go rfl rfl (OW.alloc Tz79 fun b3 w4 N3 => ?_)
            replace H := H.new N3 N3.blk
            replace R0 := H.ext
            refine LW.go rfl rfl (OW.store Tk79 rfl rfl (H.blk 0 rfl) (off := 0) (vs := [.slice A2 x1.drains.length c2, .int .i64 x1.amount]) rfl rfl rfl rfl rfl fun w5 S1 => ?_)
            replace H : Hp w w5 [.blk b3 79 [.slice A2 x1.drains.length c2, .int .i64 x1.amount], .own (some ⟨b2, 0, none⟩) (((List.replicate (Int.toNat ((a0.drains.length : Int))) (0 : Int))).length) 3 1 (List.map encN l4), .blk b1 24 [.int .i64 a0.nodes, .int .i64 a0.from_, .int .i64 a0.to_, .slice A_a0_drains a0.drains.length c_a0_drains]] := H.stored 0 rfl S1
            replace R0 := H.ext
            refine LW.nil (hK15 _ _ ?_)
            refine CW.seq fun K16 hK16 => ?_
            refine CW.seq fun K17 hK17 => ?_
            obtain ⟨r1, hr1, F⟩ := bnd_some F
            refine CW.region ?_
            refine LW.pure rfl rfl (RV.loadA [.int .i64 a0.nodes, .int .i64 a0.from_, .int .i64 a0.to_, .slice A_a0_drains a0.drains.length c_a0_drains] Tk24 rfl (H.blk 2 rfl).cells rfl rfl) ?_
            refine LW.pure rfl rfl (RV.loadA [.slice A2 x1.drains.length c2, .int .i64 x1.amount] Tk79 rfl (H.blk 0 rfl).cells rfl rfl) ?_
            refine LW.go rfl rfl (OW.call Tc77 rfl (drain_isTrail_ok (a0 := a0) (a1 := x1) (h_a0_drains.ext R0) (hS1.ext R0) hr1) ?_)
            rintro _ w6 ⟨rfl, E2⟩
            refine ⟨_, rfl, ?_⟩
            replace H := H.grow E2
            replace R0 := H.ext
            refine LW.pure rfl rfl (RV.not rfl) ?_
            refine LW.nil (hK17 _ _ ?_)
            by_cases hp4 : r1 = true
            ·
              replace F := ite_y hp4 F
              have hq4 : r1 = true := hp4
              refine CW.condF rfl (not_f hq4) ?_
              refine CW.skip (hK16 _ _ ?_)
              refine CW.seq fun K18 hK18 => ?_
              refine CW.region ?_
              refine LW.pure rfl rfl (RV.fieldAddr Tf79_0 rfl) ?_
              refine LW.pure rfl rfl (RV.load1 Tk30 rfl ((H.blk 0 rfl).cells.off 0) rfl) ?_
              refine LW.pure rfl rfl (RV.len Ts30 rfl) ?_
              refine LW.pure rfl rfl (RV.move rfl) ?_
              refine LW.nil (hK18 _ _ ?_)
              refine CW.block ?_
              replace H := H.pick (L' := [.own (some ⟨b2, 0, none⟩) (((List.replicate (Int.toNat ((a0.drains.length : Int))) (0 : Int))).length) 3 1 (List.map encN l4), .blk b1 24 [.int .i64 a0.nodes, .int .i64 a0.from_, .int .i64 a0.to_, .slice A_a0_drains a0.drains.length c_a0_drains], .blk b3 79 [.slice A2 x1.drains.length c2, .int .i64 x1.amount]]) [1, 2, 0] (by decide) rfl
              replace R0 := H.ext
              refine CW.loop (fun meas ρ wl4 => ∃ (t37_1 : Int) (l3 : List Int), drain_Sum_L1 t26_1 rec1 x1 meas t37_1 l3 = some res ∧ ρ = [(2, .pointer (some (⟨b1, 0, none⟩))), (4, .slice none 0 0), (5, .int .i64 0), (7, .slice (some ⟨b2, 0, none⟩) l3.length (((List.replicate (Int.toNat ((a0.drains.length : Int))) (0 : Int))).length)), (9, .pointer (some (⟨b3, 0, none⟩))), (24, .slice A_a1 a1.length c_a1), (25, .int .i64 ((a1.length : Int))), (26, .int .i64 t26_1), (35, .slice A2 x1.drains.length c2), (36, .int .i64 ((x1.drains.length : Int))), (37, .int .i64 t37_1)] ∧ Hp w wl4 [.own (some ⟨b2, 0, none⟩) (((List.replicate (Int.toNat ((a0.drains.length : Int))) (0 : Int))).length) 3 1 (List.map encN l3), .blk b1 24 [.int .i64 a0.nodes, .int .i64 a0.from_, .int .i64 a0.to_, .slice A_a0_drains a0.drains.length c_a0_drains], .blk b3 79 [.slice A2 x1.drains.length c2, .int .i64 x1.amount]]) FU ⟨_, ?_, ((0 : Int)), l4, F, rfl, H⟩ ?_
              · exact ⟨rfl, rfl, rfl, (look_slice rfl (by first | rfl | (simp; done) | (simp; omega))), rfl, rfl, rfl, rfl, rfl, rfl, rfl, trivial⟩
              rintro mk2 _ wl4 ⟨t37_1, l3, F, rfl, H⟩
              have R0 := H.ext
              replace F := drain_Sum_L1_s F
              obtain ⟨mk2, rfl, F⟩ := F
              generalize hrec2 : drain_Sum_L1 t26_1 rec1 x1 mk2 = rec2 at F
              unfold drain_Sum_B1 at F
              refine CW.seq fun K19 hK19 => ?_
              refine CW.region ?_
              refine LW.pure rfl rfl (RV.lss rfl rfl) ?_
              refine LW.nil (hK19 _ _ ?_)
              refine CW.seq fun K20 hK20 => ?_
              by_cases hp5 : t37_1 < ((x1.drains.length : Int))
              ·
                replace F := ite_y hp5 F
                have hq5 := dec_t hp5
                refine CW.condT rfl hq5 ?_
                refine CW.skip (hK20 _ _ ?_)
                refine CW.seq fun K21 hK21 => ?_
                refine CW.block ?_
                refine CW.seq fun K22 hK22 => ?_
                obtain ⟨x2, hbx2, hx2, F⟩ := ix_some F
                refine CW.region ?_
                refine LW.pure rfl rfl (RV.indexAddr Ts30 rfl rfl hbx2 (hS1.addr_ hx2)) ?_
                refine LW.pure rfl rfl (RV.load1 Tk3 rfl ((hS1.at_ hx2).ext R0) rfl) ?_
                refine LW.pure rfl rfl (RV.assign rfl) ?_
                refine LW.nil (hK22 _ _ ?_)
                obtain ⟨x3, hbx3, hx3, F⟩ := ix_some F
                obtain ⟨hg3, F⟩ := gd_some F
                obtain ⟨x4, hbx4, hx4, F⟩ := ix_some F
                refine CW.draw [8] (fun _ => True) (.cons 0 1 (.cons 1 1 (.cons 2 1 (.cons 3 1 (.cons 4 1 (.cons 5 1 (.cons 6 1 (.cons 7 1 (.cons 8 0 .nil))))))))) mixed (by kernel_rfl) fun w7 E3 => ?_
                replace H := H.grow E3
                replace R0 := H.ext
                refine DW.fix rfl rfl rfl (fun _ EQ => RV.move rfl) ?_
                refine DW.fix rfl rfl rfl (fun _ EQ => RV.move rfl) ?_
                refine DW.fix rfl rfl rfl (fun _ EQ => RV.indexAddr Ts30 rfl rfl hbx3 ⟨_, rfl⟩) ?_
                refine DW.fix rfl rfl rfl (fun _ EQ => RV.load1 Tk3 rfl (((H.grow EQ).own 0 rfl).sl.at_ hx3) rfl) ?_
                refine DW.fix rfl rfl rfl (fun _ EQ => RV.fieldAddr Tf79_1 rfl) ?_
                refine DW.fix rfl rfl rfl (fun _ EQ => RV.load1 Tk3 rfl (((H.grow EQ).blk 2 rfl).cells.off 1) rfl) ?_
                refine DW.fix rfl rfl rfl (fun _ EQ => RV.add rfl rfl hg3) ?_
                refine DW.fix rfl rfl rfl (fun _ EQ => RV.indexAddr Ts30 rfl rfl hbx4 ⟨_, rfl⟩) ?_
                refine DW.sole rfl rfl rfl (OW.storeO (enc := encN) (vs := [.int .i64 (x3 + x1.amount)]) 0 (x3 + x1.amount) Tk3 rfl rfl (H.own 0 rfl) (fun _ => rfl) rfl hx4 rfl rfl (by decide) rfl rfl fun w8 M1 O1 => ?_)
                refine ⟨fun h => absurd h (by decide), M1.modx (fun _ _ => trivial), ?_⟩
                replace H : Hp w w8 [.own (some ⟨b2, 0, none⟩) (((List.replicate (Int.toNat ((a0.drains.length : Int))) (0 : Int))).length) 3 1 (List.map encN ((l3.set (Int.toNat x2) (x3 + x1.amount)))), .blk b1 24 [.int .i64 a0.nodes, .int .i64 a0.from_, .int .i64 a0.to_, .slice A_a0_drains a0.drains.length c_a0_drains], .blk b3 79 [.slice A2 x1.drains.length c2, .int .i64 x1.amount]] := H.mod 0 rfl M1 O1 (.inl rfl)
                replace R0 := H.ext
                refine DW.nil (hK21 _ _ ?_)
                obtain ⟨hg4, F⟩ := gd_some F
                refine CW.region ?_
                refine LW.pure rfl rfl (RV.add rfl rfl hg4) ?_
                refine LW.pure rfl rfl (RV.move rfl) ?_
                refine LW.nil ?_
                subst hrec2
                refine ⟨mk2, Nat.lt_succ_self _, _, ?_, (t37_1 + 1), ((l3.set (Int.toNat x2) (x3 + x1.amount))), F, rfl, H⟩
                exact ⟨rfl, rfl, rfl, (look_slice rfl (by first | rfl | (simp; done) | (simp; omega))), rfl, rfl, rfl, rfl, rfl, rfl, rfl, trivial⟩
              ·
                replace F := ite_n hp5 F
                have hq5 := dec_f hp5
                refine CW.condF rfl hq5 ?_
                replace H := H.pick (L' := [.own (some ⟨b2, 0, none⟩) (((List.replicate (Int.toNat ((a0.drains.length : Int))) (0 : Int))).length) 3 1 (List.map encN l3), .blk b1 24 [.int .i64 a0.nodes, .int .i64 a0.from_, .int .i64 a0.to_, .slice A_a0_drains a0.drains.length c_a0_drains]]) [0, 1] (by decide) rfl
                replace R0 := H.ext
                refine CW.exit (jK452 _ _ ⟨_, ?_, ⟨l3, F, rfl, H⟩⟩)
                exact ⟨rfl, rfl, rfl, (look_slice rfl (by first | rfl | (simp; done) | (simp; omega))), rfl, rfl, rfl, trivial⟩
            ·
              replace F := ite_n hp4 F
              have hq4 : r1 = false := raw_f hp4
              refine CW.condT rfl (not_t hq4) ?_
              refine CW.seq fun K23 hK23 => ?_
              refine CW.region ?_
              refine LW.pure rfl rfl (RV.assign rfl) ?_
              refine LW.pure rfl rfl (RV.assign rfl) ?_
              refine LW.nil (hK23 _ _ ?_)
              refine CW.ret ?_
              obtain rfl := Option.some.inj F
              refine ⟨_, (ResOK.two rfl rfl), ?_⟩
              replace H := H.nilOwn 3 1
              replace R0 := H.ext
              replace H := H.pick (L' := [.own none 0 3 1 (List.map encN (([] : List Int)))]) [0] (by decide) rfl
              replace R0 := H.ext
              exact ⟨none, 0, (by first | rfl | (simp; done) | (simp; omega)), H⟩
        ·
          replace F := ite_n hp3 F
          have hq3 := dec_f hp3
          refine CW.condF rfl hq3 ?_
          replace H := H.pick (L' := [.own (some ⟨b2, 0, none⟩) (((List.replicate (Int.toNat ((a0.drains.length : Int))) (0 : Int))).length) 3 1 (List.map encN l4)]) [0] (by decide) rfl
          replace R0 := H.ext
          refine CW.exit (jK357 _ _ ⟨_, ?_, ⟨l4, F, rfl, H⟩⟩)
          exact ⟨rfl, rfl, (look_slice rfl (by first | rfl | (simp; done) | (simp; omega))), trivial⟩
  ·
    replace F := ite_n hp1 F
    have hq1 := dec_f hp1
    refine CW.condT rfl (not_t hq1) ?_
    refine CW.seq fun K24 hK24 => ?_
    refine CW.region ?_
    refine LW.pure rfl rfl (RV.move rfl) ?_
    refine LW.pure rfl rfl (RV.assign rfl) ?_
    refine LW.pure rfl rfl (RV.assign rfl) ?_
    refine LW.nil (hK24 _ _ ?_)
    refine CW.ret ?_
    obtain rfl := Option.some.inj F
    refine ⟨_, (ResOK.two rfl rfl), ?_⟩
    replace H := H.nilOwn 3 1
    replace R0 := H.ext
    replace H := H.pick (L' := [.own none 0 3 1 (List.map encN (([] : List Int)))]) [0] (by decide) rfl
    replace R0 := H.ext
    exact ⟨none, 0, (by first | rfl | (simp; done) | (simp; omega)), H⟩
end Go.D2

set_option linter.unusedVariables false
set_option linter.unusedSimpArgs false
namespace Go.D2
open Go.Tb Go.Proofs Go.RowKit
theorem Tc38 : callable Try.prog 38 = true := by kernel_rfl
end Go.D2
