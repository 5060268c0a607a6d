/- Lemmas and walks that the proof of this claim uses: D4x4, Tb22, D4p1, D4p2, D4p3, D4p4, D4p5, D4p6, D4p7, D4p8, D4p9, D4pA, D4pB. -/
import Derived.Test.YtihcdffakmnkdaaTopHollows4
set_option linter.unusedVariables false
set_option linter.unusedSimpArgs false
namespace Go.D4
open Go.Tb Go.Proofs Go.RowKit
theorem Tc59 : callable Try.prog 59 = true := by kernel_rfl
theorem Tc60 : callable Try.prog 60 = true := by kernel_rfl
set_option maxRecDepth 20000 in
set_option maxHeartbeats 1000000 in
theorem ref05_SameInts_ok {a0 : List Int} {a1 : List Int} {A_a0 : Option Addr} {c_a0 : Nat} {A_a1 : Option Addr} {c_a1 : Nat} {w : World} {res : Bool} (h_a0 : Sl w A_a0 c_a0 1 (a0.map encN)) (h_a1 : Sl w A_a1 c_a1 1 (a1.map encN)) (F : ref05_SameInts a0 a1 = some res) : Calls Try.prog 60 #[.slice A_a0 a0.length c_a0, .slice A_a1 a1.length c_a1] w (Rt w (.bool res)) := by
  refine calls_of_cw (args := [.slice A_a0 a0.length c_a0, .slice A_a1 a1.length c_a1]) Try.func60 rfl rfl rfl rfl ?_
  have H := Hp.start w
  have R0 := H.ext
  unfold ref05_SameInts at F
  refine CW.seq fun K1 hK1 => ?_
  refine CW.region ?_
  refine LW.pure rfl rfl (RV.assign rfl) ?_
  refine LW.nil (hK1 _ _ ?_)
  refine CW.seq fun K2 hK2 => ?_
  refine CW.seq fun K3 hK3 => ?_
  refine CW.region ?_
  refine LW.pure rfl rfl (RV.move rfl) ?_
  refine LW.pure rfl rfl (RV.len Ts25 rfl) ?_
  refine LW.pure rfl rfl (RV.move rfl) ?_
  refine LW.pure rfl rfl (RV.len Ts25 rfl) ?_
  refine LW.pure rfl rfl (RV.nei rfl rfl) ?_
  refine LW.nil (hK3 _ _ ?_)
  by_cases hp1 : ((a0.length : Int)) = ((a1.length : Int))
  ·
    replace F := ite_y hp1 F
    have hq1 := dec_t hp1
    refine CW.condF rfl (not_f hq1) ?_
    refine CW.skip (hK2 _ _ ?_)
    refine CW.seqJ (fun ρ wl1 => (ref05_SameInts_k1 = some res ∧ ρ = [(4, .bool false)] ∧ Hp w wl1 [])) ?_ ?_
    ·
      rintro _ wl1 ⟨F, rfl, H⟩
      have R0 := H.ext
      unfold ref05_SameInts_k1 at F
      refine CW.seq fun K4 hK4 => ?_
      refine CW.region ?_
      refine LW.pure rfl rfl (RV.assign rfl) ?_
      refine LW.nil (hK4 _ _ ?_)
      refine CW.ret ?_
      obtain rfl := Option.some.inj F
      refine ⟨_, (ResOK.one rfl), ?_⟩
      refine ⟨(by first | rfl | simp), R0⟩
    ·
      intro K5 hK5 jK59
      refine CW.seq fun K6 hK6 => ?_
      refine CW.region ?_
      refine LW.pure rfl rfl (RV.assign rfl) ?_
      refine LW.nil (hK6 _ _ ?_)
      refine CW.block ?_
      refine CW.loop (fun meas ρ wl2 => ∃ (t5_1 : Int), ref05_SameInts_L1 a0 a1 meas t5_1 = some res ∧ ρ = [(0, .slice A_a0 a0.length c_a0), (1, .slice A_a1 a1.length c_a1), (4, .bool false), (5, .int .i64 t5_1)] ∧ Hp w wl2 []) FU ⟨_, ?_, ((0 : Int)), F, rfl, H⟩ ?_
      · exact ⟨rfl, rfl, rfl, rfl, trivial⟩
      rintro mk1 _ wl2 ⟨t5_1, F, rfl, H⟩
      have R0 := H.ext
      replace F := ref05_SameInts_L1_s F
      obtain ⟨mk1, rfl, F⟩ := F
      generalize hrec1 : ref05_SameInts_L1 a0 a1 mk1 = rec1 at F
      unfold ref05_SameInts_B1 at F
      refine CW.seq fun K7 hK7 => ?_
      refine CW.seq fun K8 hK8 => ?_
      refine CW.region ?_
      refine LW.pure rfl rfl (RV.move rfl) ?_
      refine LW.pure rfl rfl (RV.move rfl) ?_
      refine LW.pure rfl rfl (RV.len Ts25 rfl) ?_
      refine LW.pure rfl rfl (RV.lss rfl rfl) ?_
      refine LW.nil (hK8 _ _ ?_)
      by_cases hp2 : t5_1 < ((a0.length : Int))
      ·
        replace F := ite_y hp2 F
        have hq2 := dec_t hp2
        refine CW.condT rfl hq2 ?_
        refine CW.skip (hK7 _ _ ?_)
        refine CW.seq fun K9 hK9 => ?_
        refine CW.block ?_
        refine CW.seq fun K10 hK10 => ?_
        obtain ⟨x1, hbx1, hx1, F⟩ := ix_some F
        obtain ⟨x2, hbx2, hx2, F⟩ := ix_some F
        refine CW.draw [] (fun _ => True) (.cons 0 1 (.cons 1 1 (.cons 2 1 (.cons 3 1 (.cons 4 1 (.cons 5 1 (.cons 6 1 (.cons 7 1 (.cons 8 1 .nil))))))))) mixed (by kernel_rfl) fun w1 E1 => ?_
        replace H := H.grow E1
        replace R0 := H.ext
        refine DW.fix rfl rfl rfl (fun _ EQ => RV.move rfl) ?_
        refine DW.fix rfl rfl rfl (fun _ EQ => RV.move rfl) ?_
        refine DW.fix rfl rfl rfl (fun _ EQ => RV.indexAddr Ts25 rfl rfl hbx1 (h_a0.addr_ hx1)) ?_
        refine DW.fix rfl rfl rfl (fun _ EQ => RV.load1 Tk3 rfl ((h_a0.at_ hx1).ext (R0.trans EQ)) rfl) ?_
        refine DW.fix rfl rfl rfl (fun _ EQ => RV.move rfl) ?_
        refine DW.fix rfl rfl rfl (fun _ EQ => RV.move rfl) ?_
        refine DW.fix rfl rfl rfl (fun _ EQ => RV.indexAddr Ts25 rfl rfl hbx2 (h_a1.addr_ hx2)) ?_
        refine DW.fix rfl rfl rfl (fun _ EQ => RV.load1 Tk3 rfl ((h_a1.at_ hx2).ext (R0.trans EQ)) rfl) ?_
        refine DW.fix rfl rfl rfl (fun _ EQ => RV.nei rfl rfl) ?_
        refine DW.nil (hK10 _ _ ?_)
        by_cases hp3 : x1 = x2
        ·
          replace F := ite_y hp3 F
          have hq3 := dec_t hp3
          refine CW.condF rfl (not_f hq3) ?_
          refine CW.skip (hK9 _ _ ?_)
          obtain ⟨hg1, F⟩ := gd_some F
          refine CW.region ?_
          refine LW.pure rfl rfl (RV.move rfl) ?_
          refine LW.pure rfl rfl (RV.add rfl rfl hg1) ?_
          refine LW.pure rfl rfl (RV.assign rfl) ?_
          refine LW.nil ?_
          subst hrec1
          refine ⟨mk1, Nat.lt_succ_self _, _, ?_, (t5_1 + 1), F, rfl, H⟩
          exact ⟨rfl, rfl, rfl, rfl, trivial⟩
        ·
          replace F := ite_n hp3 F
          have hq3 := dec_f hp3
          refine CW.condT rfl (not_t hq3) ?_
          refine CW.seq fun K11 hK11 => ?_
          refine CW.region ?_
          refine LW.pure rfl rfl (RV.assign rfl) ?_
          refine LW.nil (hK11 _ _ ?_)
          refine CW.ret ?_
          obtain rfl := Option.some.inj F
          refine ⟨_, (ResOK.one rfl), ?_⟩
          refine ⟨(by first | rfl | simp), R0⟩
      ·
        replace F := ite_n hp2 F
        have hq2 := dec_f hp2
        refine CW.condF rfl hq2 ?_
        refine CW.exit (jK59 _ _ ⟨_, ?_, ⟨F, rfl, H⟩⟩)
        exact ⟨rfl, trivial⟩
  ·
    replace F := ite_n hp1 F
    have hq1 := dec_f hp1
    refine CW.condT rfl (not_t hq1) ?_
    refine CW.seq fun K12 hK12 => ?_
    refine CW.region ?_
    refine LW.pure rfl rfl (RV.assign rfl) ?_
    refine LW.nil (hK12 _ _ ?_)
    refine CW.ret ?_
    obtain rfl := Option.some.inj F
    refine ⟨_, (ResOK.one rfl), ?_⟩
    refine ⟨(by first | rfl | simp), R0⟩
set_option maxRecDepth 20000 in
set_option maxHeartbeats 1000000 in
theorem top_TopHollows_ok {a0 : Bog} {a1 : List Int} {a2 : Int} {A_a0_worth : Option Addr} {c_a0_worth : Nat} {A_a1 : Option Addr} {c_a1 : Nat} {w : World} {res : Bool} (h_a0_worth : Sl2 w A_a0_worth c_a0_worth 1 encN a0.worth) (h_a1 : Sl w A_a1 c_a1 1 (a1.map encN)) (F : top_TopHollows a0 a1 a2 = some res) : Calls Try.prog 16 #[.agg #[.slice A_a0_worth a0.worth.length c_a0_worth], .slice A_a1 a1.length c_a1, .int .i64 a2] w (Rt w (.bool res)) := by
  refine calls_of_cw (args := [.agg #[.slice A_a0_worth a0.worth.length c_a0_worth], .slice A_a1 a1.length c_a1, .int .i64 a2]) Try.func16 rfl rfl rfl rfl ?_
  have H := Hp.start w
  have R0 := H.ext
  unfold top_TopHollows at F
  refine CW.seq fun K1 hK1 => ?_
  refine CW.region ?_
  refine LW.go rfl rfl (OW.box rfl fun b1 w1 N1 => ?_)
  replace H := H.new N1 N1.blk
  replace R0 := H.ext
  refine LW.pure rfl rfl (RV.assign rfl) ?_
  refine LW.nil (hK1 _ _ ?_)
  refine CW.seq fun K2 hK2 => ?_
  obtain ⟨r20, hr20, F⟩ := bnd_some F
  refine CW.region ?_
  refine LW.go rfl rfl (OW.buildSlice (e := 3) (vs := [.int .i64 1]) (cs := [.int .i64 1]) rfl (fun _ => by kernel_rfl) fun b2 w2 N2 => ?_)
  replace H := H.made' (k := 1) (t := 3) (enc := encN) (l := ([1] : List Int)) N2 N2.blk (fun _ => rfl) rfl (by first | decide | omega | (simp; done) | (simp; omega))
  replace R0 := H.ext
  refine LW.go rfl rfl (OW.buildSlice (e := 3) (vs := [.int .i64 1]) (cs := [.int .i64 1]) rfl (fun _ => by kernel_rfl) fun b3 w3 N3 => ?_)
  replace H := H.made' (k := 1) (t := 3) (enc := encN) (l := ([1] : List Int)) N3 N3.blk (fun _ => rfl) rfl (by first | decide | omega | (simp; done) | (simp; omega))
  replace R0 := H.ext
  refine LW.go rfl rfl (OW.buildSlice (e := 25) (vs := [.slice (some ⟨b2, 0, none⟩) 1 ((([1] : List Int)).length), .slice (some ⟨b3, 0, none⟩) 1 ((([1] : List Int)).length)]) (cs := [.slice (some ⟨b2, 0, none⟩) 1 ((([1] : List Int)).length), .slice (some ⟨b3, 0, none⟩) 1 ((([1] : List Int)).length)]) rfl (fun _ => by kernel_rfl) fun b4 w4 N4 => ?_)
  replace H := H.made' (k := 1) (t := 25) (enc := encH) (l := ([((some ⟨b2, 0, none⟩, (([1] : List Int)).length), ([1] : List Int)), ((some ⟨b3, 0, none⟩, (([1] : List Int)).length), ([1] : List Int))] : List ((Option Addr × Nat) × List Int))) N4 (by have q := N4.blk; simp only [List.flatMap_cons, List.flatMap_nil, encH, List.length_nil, List.append_nil, List.cons_append, List.nil_append]; first | done | exact q) (fun _ => rfl) rfl (by first | decide | omega | (simp; done) | (simp; omega))
  replace R0 := H.ext
  have hS24 : Sl2 w4 (some ⟨b4, 0, none⟩) 2 1 encN [([1] : List Int), ([1] : List Int)] := Sl2.two (H.own 0 rfl).sl (H.own 2 rfl).sl (H.own 1 rfl).sl
  refine LW.pure rfl rfl (RV.build (vs := [.slice (some ⟨b4, 0, none⟩) 2 2]) (cs := [.slice (some ⟨b4, 0, none⟩) 2 2]) rfl (fun _ => by kernel_rfl)) ?_
  refine LW.go rfl rfl (OW.call Tc49 (evs_cast rfl (by first | rfl | (simp; done) | (simp; omega))) (cut_Count_ok (a0 := (⟨([([1] : List Int), ([1] : List Int)] : List (List Int))⟩ : Bog)) (Sl2.two (H.own 0 rfl).sl (H.own 2 rfl).sl (H.own 1 rfl).sl) hr20) ?_)
  rintro _ w5 ⟨rfl, E1⟩
  refine ⟨_, rfl, ?_⟩
  have hS24 := hS24.ext E1
  replace H := H.grow E1
  replace R0 := H.ext
  refine LW.pure rfl rfl (RV.move rfl) ?_
  refine LW.pure rfl rfl (RV.extract rfl rfl) ?_
  refine LW.pure rfl rfl (RV.extract rfl rfl) ?_
  refine LW.pure rfl rfl (RV.assign rfl) ?_
  refine LW.pure rfl rfl (RV.assign rfl) ?_
  refine LW.nil (hK2 _ _ ?_)
  refine CW.seq fun K3 hK3 => ?_
  refine CW.seqJ (fun ρ wl1 => (∃ (t47_1 : Bool), top_TopHollows_k6 a0 a1 a2 t47_1 = some res ∧ ρ = [(1, .slice A_a1 a1.length c_a1), (2, .int .i64 a2), (3, .pointer (some (⟨b1, 0, none⟩))), (6, .bool false), (47, .bool t47_1)] ∧ Hp w wl1 [.blk b1 24 [.slice A_a0_worth a0.worth.length c_a0_worth]])) ?_ ?_
  ·
    rintro _ wl1 ⟨t47_1, F, rfl, H⟩
    have R0 := H.ext
    unfold top_TopHollows_k6 at F
    by_cases hp1 : t47_1 = true
    ·
      replace F := ite_y hp1 F
      have hq1 : t47_1 = true := hp1
      refine CW.condT rfl hq1 ?_
      refine CW.seq fun K4 hK4 => ?_
      refine CW.region ?_
      refine LW.pure rfl rfl (RV.assign rfl) ?_
      refine LW.nil (hK4 _ _ ?_)
      refine CW.ret ?_
      obtain rfl := Option.some.inj F
      refine ⟨_, (ResOK.one rfl), ?_⟩
      refine ⟨(by first | rfl | simp), R0⟩
    ·
      replace F := ite_n hp1 F
      have hq1 : t47_1 = false := raw_f hp1
      refine CW.condF rfl hq1 ?_
      refine CW.skip (hK3 _ _ ?_)
      refine CW.seq fun K5 hK5 => ?_
      refine CW.seq fun K6 hK6 => ?_
      obtain ⟨r19, hr19, F⟩ := bnd_some F
      refine CW.region ?_
      refine LW.pure rfl rfl (RV.loadA [.slice A_a0_worth a0.worth.length c_a0_worth] Tk24 rfl (H.blk 0 rfl).cells rfl rfl) ?_
      refine LW.pure rfl rfl (RV.move rfl) ?_
      refine LW.go rfl rfl (OW.buildSlice (e := 25) (vs := [.slice A_a1 a1.length c_a1]) (cs := [.slice A_a1 a1.length c_a1]) rfl (fun _ => by kernel_rfl) fun b5 w6 N5 => ?_)
      replace H := H.made' (k := 1) (t := 25) (enc := encH) (l := ([((A_a1, c_a1), a1)] : List ((Option Addr × Nat) × List Int))) N5 (by have q := N5.blk; simp only [List.flatMap_cons, List.flatMap_nil, encH, List.length_nil, List.append_nil, List.cons_append, List.nil_append]; first | done | exact q) (fun _ => rfl) rfl (by first | decide | omega | (simp; done) | (simp; omega))
      replace R0 := H.ext
      have hS26 : Sl2 w6 (some ⟨b5, 0, none⟩) 1 1 encN [a1] := Sl2.one (H.own 0 rfl).sl (h_a1.ext R0)
      refine LW.go rfl rfl (OW.call Tc17 (evs_cast rfl (by first | rfl | (simp; done) | (simp; omega))) (law04_Long_ok (a0 := a0) (a1 := ([a1] : List (List Int))) (h_a0_worth.ext R0) hS26 hr19) ?_)
      rintro _ w7 ⟨rfl, E2⟩
      refine ⟨_, rfl, ?_⟩
      have hS26 := hS26.ext E2
      replace H := H.grow E2
      replace R0 := H.ext
      refine LW.nil (hK6 _ _ ?_)
      by_cases hp2 : r19 = true
      ·
        replace F := ite_y hp2 F
        have hq2 : r19 = true := hp2
        refine CW.condT rfl hq2 ?_
        refine CW.seq fun K7 hK7 => ?_
        refine CW.region ?_
        refine LW.pure rfl rfl (RV.assign rfl) ?_
        refine LW.nil (hK7 _ _ ?_)
        refine CW.ret ?_
        obtain rfl := Option.some.inj F
        refine ⟨_, (ResOK.one rfl), ?_⟩
        refine ⟨(by first | rfl | simp), R0⟩
      ·
        replace F := ite_n hp2 F
        have hq2 : r19 = false := raw_f hp2
        refine CW.condF rfl hq2 ?_
        refine CW.skip (hK5 _ _ ?_)
        refine CW.seq fun K8 hK8 => ?_
        obtain ⟨r1, hr1, F⟩ := bnd_some F
        refine CW.region ?_
        refine LW.pure rfl rfl (RV.loadA [.slice A_a0_worth a0.worth.length c_a0_worth] Tk24 rfl (H.blk 1 rfl).cells rfl rfl) ?_
        refine LW.go rfl rfl (OW.call Tc28 rfl (cut_Best_ok (a0 := a0) (h_a0_worth.ext R0) hr1) ?_)
        rintro _ w8 ⟨A32_0, c32_0, rfl, E3⟩
        refine ⟨_, rfl, ?_⟩
        have hS26 := hS26.ext E3.ext
        replace H : Hp w w8 [.own A32_0 c32_0 3 1 (List.map encN r1.1), .own (some ⟨b5, 0, none⟩) ((([((A_a1, c_a1), a1)] : List ((Option Addr × Nat) × List Int))).length) 25 1 (List.map encH (([((A_a1, c_a1), a1)] : List ((Option Addr × Nat) × List Int)))), .blk b1 24 [.slice A_a0_worth a0.worth.length c_a0_worth]] := H.append E3
        replace R0 := H.ext
        refine LW.pure rfl rfl (RV.move rfl) ?_
        refine LW.pure rfl rfl (RV.extract rfl rfl) ?_
        refine LW.pure rfl rfl (RV.extract rfl rfl) ?_
        refine LW.pure rfl rfl (RV.extract rfl rfl) ?_
        refine LW.pure rfl rfl (RV.assign rfl) ?_
        refine LW.pure rfl rfl (RV.assign rfl) ?_
        refine LW.pure rfl rfl (RV.assign rfl) ?_
        refine LW.nil (hK8 _ _ ?_)
        refine CW.seq fun K9 hK9 => ?_
        obtain ⟨r2, hr2, F⟩ := bnd_some F
        refine CW.region ?_
        refine LW.pure rfl rfl (RV.loadA [.slice A_a0_worth a0.worth.length c_a0_worth] Tk24 rfl (H.blk 2 rfl).cells rfl rfl) ?_
        refine LW.go rfl rfl (OW.call Tc30 rfl (cut_Deepest_ok (a0 := a0) (h_a0_worth.ext R0) hr2) ?_)
        rintro _ w9 ⟨A34_0, c34_0, rfl, E4⟩
        refine ⟨_, rfl, ?_⟩
        have hS26 := hS26.ext E4.ext
        replace H : Hp w w9 [.own A34_0 c34_0 3 1 (List.map encN r2.1), .own A32_0 c32_0 3 1 (List.map encN r1.1), .own (some ⟨b5, 0, none⟩) ((([((A_a1, c_a1), a1)] : List ((Option Addr × Nat) × List Int))).length) 25 1 (List.map encH (([((A_a1, c_a1), a1)] : List ((Option Addr × Nat) × List Int)))), .blk b1 24 [.slice A_a0_worth a0.worth.length c_a0_worth]] := H.append E4
        replace R0 := H.ext
        refine LW.pure rfl rfl (RV.move rfl) ?_
        refine LW.pure rfl rfl (RV.extract rfl rfl) ?_
        refine LW.pure rfl rfl (RV.extract rfl rfl) ?_
        refine LW.pure rfl rfl (RV.extract rfl rfl) ?_
        refine LW.pure rfl rfl (RV.assign rfl) ?_
        refine LW.pure rfl rfl (RV.assign rfl) ?_
        refine LW.pure rfl rfl (RV.assign rfl) ?_
        refine LW.nil (hK9 _ _ ?_)
        refine CW.seq fun K10 hK10 => ?_
        obtain ⟨r12, hr12, F⟩ := bnd_some F
        refine CW.region ?_
        refine LW.pure rfl rfl (RV.loadA [.slice A_a0_worth a0.worth.length c_a0_worth] Tk24 rfl (H.blk 3 rfl).cells rfl rfl) ?_
        refine LW.go rfl rfl (OW.call Tc59 rfl (cut_Proof_ok (a0 := a0) (h_a0_worth.ext R0) hr12) ?_)
        rintro _ w10 ⟨A36_0, c36_0, rfl, E5⟩
        refine ⟨_, rfl, ?_⟩
        have hS26 := hS26.ext E5.ext
        replace H : Hp w w10 [.own A36_0 c36_0 94 4 (List.map encPass r12.1), .own A34_0 c34_0 3 1 (List.map encN r2.1), .own A32_0 c32_0 3 1 (List.map encN r1.1), .own (some ⟨b5, 0, none⟩) ((([((A_a1, c_a1), a1)] : List ((Option Addr × Nat) × List Int))).length) 25 1 (List.map encH (([((A_a1, c_a1), a1)] : List ((Option Addr × Nat) × List Int)))), .blk b1 24 [.slice A_a0_worth a0.worth.length c_a0_worth]] := H.append E5
        replace R0 := H.ext
        refine LW.pure rfl rfl (RV.move rfl) ?_
        refine LW.pure rfl rfl (RV.extract rfl rfl) ?_
        refine LW.pure rfl rfl (RV.extract rfl rfl) ?_
        refine LW.pure rfl rfl (RV.assign rfl) ?_
        refine LW.pure rfl rfl (RV.assign rfl) ?_
        refine LW.nil (hK10 _ _ ?_)
        refine CW.seq fun K11 hK11 => ?_
        refine CW.seqJ (fun ρ wl2 => (∃ (t76_1 : Bool), top_TopHollows_k5 a0 a1 a2 r1 r2 r12 t76_1 = some res ∧ ρ = [(1, .slice A_a1 a1.length c_a1), (2, .int .i64 a2), (3, .pointer (some (⟨b1, 0, none⟩))), (6, .bool false), (8, .int .i64 r1.2.2), (9, .slice A32_0 r1.1.length c32_0), (10, .int .i64 r1.2.1), (11, .slice A34_0 r2.1.length c34_0), (12, .int .i64 r2.2.1), (14, .slice A36_0 r12.1.length c36_0), (76, .bool t76_1)] ∧ Hp w wl2 [.own A32_0 c32_0 3 1 (List.map encN r1.1), .own A34_0 c34_0 3 1 (List.map encN r2.1), .own A36_0 c36_0 94 4 (List.map encPass r12.1), .blk b1 24 [.slice A_a0_worth a0.worth.length c_a0_worth]])) ?_ ?_
        ·
          rintro _ wl2 ⟨t76_1, F, rfl, H⟩
          have R0 := H.ext
          unfold top_TopHollows_k5 at F
          by_cases hp3 : t76_1 = true
          ·
            replace F := ite_y hp3 F
            have hq3 : t76_1 = true := hp3
            refine CW.condT rfl hq3 ?_
            refine CW.seq fun K12 hK12 => ?_
            refine CW.region ?_
            refine LW.pure rfl rfl (RV.assign rfl) ?_
            refine LW.nil (hK12 _ _ ?_)
            refine CW.ret ?_
            obtain rfl := Option.some.inj F
            refine ⟨_, (ResOK.one rfl), ?_⟩
            refine ⟨(by first | rfl | simp), R0⟩
          ·
            replace F := ite_n hp3 F
            have hq3 : t76_1 = false := raw_f hp3
            refine CW.condF rfl hq3 ?_
            refine CW.skip (hK11 _ _ ?_)
            refine CW.seq fun K13 hK13 => ?_
            refine CW.seq fun K14 hK14 => ?_
            refine CW.region ?_
            refine LW.pure rfl rfl (RV.move rfl) ?_
            refine LW.pure rfl rfl (RV.nei rfl rfl) ?_
            refine LW.nil (hK14 _ _ ?_)
            by_cases hp4 : r1.2.2 = 0
            ·
              replace F := ite_y hp4 F
              have hq4 := dec_t hp4
              refine CW.condF rfl (not_f hq4) ?_
              refine CW.skip (hK13 _ _ ?_)
              refine CW.seq fun K15 hK15 => ?_
              obtain ⟨r13, hr13, F⟩ := bnd_some F
              refine CW.region ?_
              refine LW.pure rfl rfl (RV.loadA [.slice A_a0_worth a0.worth.length c_a0_worth] Tk24 rfl (H.blk 3 rfl).cells rfl rfl) ?_
              refine LW.pure rfl rfl (RV.move rfl) ?_
              refine LW.go rfl rfl (OW.call Tc55 rfl (cut_CheckProof_ok (a0 := a0) (a1 := r12.1) (h_a0_worth.ext R0) (H.own 2 rfl).sl hr13) ?_)
              rintro _ w11 ⟨rfl, E6⟩
              refine ⟨_, rfl, ?_⟩
              replace H := H.grow E6
              replace R0 := H.ext
              refine LW.pure rfl rfl (RV.move rfl) ?_
              refine LW.pure rfl rfl (RV.extract rfl rfl) ?_
              refine LW.pure rfl rfl (RV.extract rfl rfl) ?_
              refine LW.pure rfl rfl (RV.assign rfl) ?_
              refine LW.pure rfl rfl (RV.assign rfl) ?_
              refine LW.nil (hK15 _ _ ?_)
              refine CW.seq fun K16 hK16 => ?_
              obtain ⟨r14, hr14, F⟩ := bnd_some F
              refine CW.region ?_
              refine LW.pure rfl rfl (RV.loadA [.slice A_a0_worth a0.worth.length c_a0_worth] Tk24 rfl (H.blk 3 rfl).cells rfl rfl) ?_
              refine LW.pure rfl rfl (RV.move rfl) ?_
              refine LW.go rfl rfl (OW.call Tc57 rfl (cut_Order_ok (a0 := a0) (a1 := r2.1) (h_a0_worth.ext R0) (H.own 1 rfl).sl hr14) ?_)
              rintro _ w12 ⟨A40_0, c40_0, rfl, E7⟩
              refine ⟨_, rfl, ?_⟩
              replace H : Hp w w12 [.own A40_0 c40_0 3 1 (List.map encN r14.1), .own A32_0 c32_0 3 1 (List.map encN r1.1), .own A34_0 c34_0 3 1 (List.map encN r2.1), .own A36_0 c36_0 94 4 (List.map encPass r12.1), .blk b1 24 [.slice A_a0_worth a0.worth.length c_a0_worth]] := H.append E7
              replace R0 := H.ext
              refine LW.pure rfl rfl (RV.move rfl) ?_
              refine LW.pure rfl rfl (RV.extract rfl rfl) ?_
              refine LW.pure rfl rfl (RV.extract rfl rfl) ?_
              refine LW.pure rfl rfl (RV.assign rfl) ?_
              refine LW.pure rfl rfl (RV.assign rfl) ?_
              refine LW.nil (hK16 _ _ ?_)
              refine CW.seq fun K17 hK17 => ?_
              obtain ⟨r15, hr15, F⟩ := bnd_some F
              refine CW.region ?_
              refine LW.pure rfl rfl (RV.loadA [.slice A_a0_worth a0.worth.length c_a0_worth] Tk24 rfl (H.blk 4 rfl).cells rfl rfl) ?_
              refine LW.pure rfl rfl (RV.move rfl) ?_
              refine LW.go rfl rfl (OW.call Tc33 rfl (cut_CheckOrder_ok (a0 := a0) (a1 := r14.1) (h_a0_worth.ext R0) (H.own 0 rfl).sl hr15) ?_)
              rintro _ w13 ⟨A42_0, c42_0, rfl, E8⟩
              refine ⟨_, rfl, ?_⟩
              replace H : Hp w w13 [.own A42_0 c42_0 3 1 (List.map encN r15.1), .own A40_0 c40_0 3 1 (List.map encN r14.1), .own A32_0 c32_0 3 1 (List.map encN r1.1), .own A34_0 c34_0 3 1 (List.map encN r2.1), .own A36_0 c36_0 94 4 (List.map encPass r12.1), .blk b1 24 [.slice A_a0_worth a0.worth.length c_a0_worth]] := H.append E8
              replace R0 := H.ext
              refine LW.pure rfl rfl (RV.move rfl) ?_
              refine LW.pure rfl rfl (RV.extract rfl rfl) ?_
              refine LW.pure rfl rfl (RV.extract rfl rfl) ?_
              refine LW.pure rfl rfl (RV.extract rfl rfl) ?_
              refine LW.pure rfl rfl (RV.assign rfl) ?_
              refine LW.pure rfl rfl (RV.assign rfl) ?_
              refine LW.pure rfl rfl (RV.assign rfl) ?_
              refine LW.nil (hK17 _ _ ?_)
              refine CW.seq fun K18 hK18 => ?_
              obtain ⟨r16, hr16, F⟩ := bnd_some F
              refine CW.region ?_
              refine LW.pure rfl rfl (RV.loadA [.slice A_a0_worth a0.worth.length c_a0_worth] Tk24 rfl (H.blk 5 rfl).cells rfl rfl) ?_
              refine LW.pure rfl rfl (RV.move rfl) ?_
              refine LW.go rfl rfl (OW.call Tc23 rfl (cut_Worth_ok (a0 := a0) (a1 := r2.1) (h_a0_worth.ext R0) (H.own 3 rfl).sl hr16) ?_)
              rintro _ w14 ⟨rfl, E9⟩
              refine ⟨_, rfl, ?_⟩
              replace H := H.grow E9
              replace R0 := H.ext
              refine LW.pure rfl rfl (RV.move rfl) ?_
              refine LW.pure rfl rfl (RV.extract rfl rfl) ?_
              refine LW.pure rfl rfl (RV.extract rfl rfl) ?_
              refine LW.pure rfl rfl (RV.assign rfl) ?_
              refine LW.pure rfl rfl (RV.assign rfl) ?_
              refine LW.nil (hK18 _ _ ?_)
              refine CW.seq fun K19 hK19 => ?_
              refine CW.seqJ (fun ρ wl3 => (∃ (t142_1 : Bool), top_TopHollows_k4 a0 a1 a2 r1 r2 t142_1 = some res ∧ ρ = [(1, .slice A_a1 a1.length c_a1), (2, .int .i64 a2), (3, .pointer (some (⟨b1, 0, none⟩))), (6, .bool false), (9, .slice A32_0 r1.1.length c32_0), (10, .int .i64 r1.2.1), (11, .slice A34_0 r2.1.length c34_0), (142, .bool t142_1)] ∧ Hp w wl3 [.own A32_0 c32_0 3 1 (List.map encN r1.1), .own A34_0 c34_0 3 1 (List.map encN r2.1), .blk b1 24 [.slice A_a0_worth a0.worth.length c_a0_worth]])) ?_ ?_
              ·
                rintro _ wl3 ⟨t142_1, F, rfl, H⟩
                have R0 := H.ext
                unfold top_TopHollows_k4 at F
                by_cases hp5 : t142_1 = true
                ·
                  replace F := ite_y hp5 F
                  have hq5 : t142_1 = true := hp5
                  refine CW.condT rfl hq5 ?_
                  refine CW.seq fun K20 hK20 => ?_
                  refine CW.region ?_
                  refine LW.pure rfl rfl (RV.assign rfl) ?_
                  refine LW.nil (hK20 _ _ ?_)
                  refine CW.ret ?_
                  obtain rfl := Option.some.inj F
                  refine ⟨_, (ResOK.one rfl), ?_⟩
                  refine ⟨(by first | rfl | simp), R0⟩
                ·
                  replace F := ite_n hp5 F
                  have hq5 : t142_1 = false := raw_f hp5
                  refine CW.condF rfl hq5 ?_
                  refine CW.skip (hK19 _ _ ?_)
                  refine CW.seq fun K21 hK21 => ?_
                  obtain ⟨r8, hr8, F⟩ := bnd_some F
                  refine CW.region ?_
                  refine LW.pure rfl rfl (RV.loadA [.slice A_a0_worth a0.worth.length c_a0_worth] Tk24 rfl (H.blk 2 rfl).cells rfl rfl) ?_
                  refine LW.pure rfl rfl (RV.move rfl) ?_
                  refine LW.go rfl rfl (OW.call Tc47 rfl (cut_Toll_ok (a0 := a0) (a1 := a2) (h_a0_worth.ext R0) hr8) ?_)
                  rintro _ w15 ⟨A47_0_worth, c47_0_worth, hs47_0_worth, rfl, E10⟩
                  refine ⟨_, rfl, ?_⟩
                  replace H : Hp w w15 [.tab A47_0_worth c47_0_worth 25 hs47_0_worth 3 1 (encM encN r8.1.worth), .own A32_0 c32_0 3 1 (List.map encN r1.1), .own A34_0 c34_0 3 1 (List.map encN r2.1), .blk b1 24 [.slice A_a0_worth a0.worth.length c_a0_worth]] := H.append E10
                  replace R0 := H.ext
                  refine LW.pure rfl rfl (RV.move rfl) ?_
                  refine LW.pure rfl rfl (RV.extract rfl rfl) ?_
                  refine LW.pure rfl rfl (RV.extract rfl rfl) ?_
                  refine LW.go rfl rfl (OW.alloc Tz24 fun b6 w16 N6 => ?_)
                  replace H := H.new N6 N6.blk
                  replace R0 := H.ext
                  refine LW.go rfl rfl (OW.store Tk24 rfl rfl (H.blk 0 rfl) (off := 0) (vs := [.slice A47_0_worth r8.1.worth.length c47_0_worth]) rfl rfl rfl rfl rfl fun w17 S1 => ?_)
                  replace H : Hp w w17 [.blk b6 24 [.slice A47_0_worth r8.1.worth.length c47_0_worth], .tab A47_0_worth c47_0_worth 25 hs47_0_worth 3 1 (encM encN r8.1.worth), .own A32_0 c32_0 3 1 (List.map encN r1.1), .own A34_0 c34_0 3 1 (List.map encN r2.1), .blk b1 24 [.slice A_a0_worth a0.worth.length c_a0_worth]] := H.stored 0 rfl S1
                  replace R0 := H.ext
                  refine LW.pure rfl rfl (RV.assign rfl) ?_
                  refine LW.nil (hK21 _ _ ?_)
                  refine CW.seqJ (fun ρ wl4 => (top_TopHollows_k1 a0 a1 r1 r2 = some res ∧ ρ = [(1, .slice A_a1 a1.length c_a1), (3, .pointer (some (⟨b1, 0, none⟩))), (6, .bool false), (9, .slice A32_0 r1.1.length c32_0), (10, .int .i64 r1.2.1), (11, .slice A34_0 r2.1.length c34_0)] ∧ Hp w wl4 [.own A32_0 c32_0 3 1 (List.map encN r1.1), .own A34_0 c34_0 3 1 (List.map encN r2.1), .blk b1 24 [.slice A_a0_worth a0.worth.length c_a0_worth]])) ?_ ?_
                  ·
                    rintro _ wl4 ⟨F, rfl, H⟩
                    have R0 := H.ext
                    unfold top_TopHollows_k1 at F
                    refine CW.seq fun K22 hK22 => ?_
                    obtain ⟨r3, hr3, F⟩ := bnd_some F
                    refine CW.region ?_
                    refine LW.pure rfl rfl (RV.loadA [.slice A_a0_worth a0.worth.length c_a0_worth] Tk24 rfl (H.blk 2 rfl).cells rfl rfl) ?_
                    refine LW.pure rfl rfl (RV.move rfl) ?_
                    refine LW.go rfl rfl (OW.call Tc23 rfl (cut_Worth_ok (a0 := a0) (a1 := a1) (h_a0_worth.ext R0) (h_a1.ext R0) hr3) ?_)
                    rintro _ w18 ⟨rfl, E11⟩
                    refine ⟨_, rfl, ?_⟩
                    replace H := H.grow E11
                    replace R0 := H.ext
                    refine LW.pure rfl rfl (RV.move rfl) ?_
                    refine LW.pure rfl rfl (RV.extract rfl rfl) ?_
                    refine LW.pure rfl rfl (RV.extract rfl rfl) ?_
                    refine LW.pure rfl rfl (RV.assign rfl) ?_
                    refine LW.pure rfl rfl (RV.assign rfl) ?_
                    refine LW.nil (hK22 _ _ ?_)
                    refine CW.seq fun K23 hK23 => ?_
                    refine CW.seq fun K24 hK24 => ?_
                    refine CW.region ?_
                    refine LW.pure rfl rfl (RV.move rfl) ?_
                    refine LW.pure rfl rfl (RV.nei rfl rfl) ?_
                    refine LW.nil (hK24 _ _ ?_)
                    by_cases hp6 : r3.2 = 0
                    ·
                      replace F := ite_y hp6 F
                      have hq6 := dec_t hp6
                      refine CW.condF rfl (not_f hq6) ?_
                      refine CW.skip (hK23 _ _ ?_)
                      refine CW.seq fun K25 hK25 => ?_
                      obtain ⟨r4, hr4, F⟩ := bnd_some F
                      refine CW.region ?_
                      refine LW.pure rfl rfl (RV.loadA [.slice A_a0_worth a0.worth.length c_a0_worth] Tk24 rfl (H.blk 2 rfl).cells rfl rfl) ?_
                      refine LW.pure rfl rfl (RV.move rfl) ?_
                      refine LW.pure rfl rfl (RV.move rfl) ?_
                      refine LW.go rfl rfl (OW.call Tc41 rfl (cut_Either_ok (a0 := a0) (a1 := a1) (a2 := r1.1) (h_a0_worth.ext R0) (h_a1.ext R0) (H.own 0 rfl).sl hr4) ?_)
                      rintro _ w19 ⟨A55_0, c55_0, rfl, E12⟩
                      refine ⟨_, rfl, ?_⟩
                      replace H : Hp w w19 [.own A55_0 c55_0 3 1 (List.map encN r4.1), .own A32_0 c32_0 3 1 (List.map encN r1.1), .own A34_0 c34_0 3 1 (List.map encN r2.1), .blk b1 24 [.slice A_a0_worth a0.worth.length c_a0_worth]] := H.append E12
                      replace R0 := H.ext
                      refine LW.pure rfl rfl (RV.move rfl) ?_
                      refine LW.pure rfl rfl (RV.extract rfl rfl) ?_
                      refine LW.pure rfl rfl (RV.extract rfl rfl) ?_
                      refine LW.pure rfl rfl (RV.assign rfl) ?_
                      refine LW.pure rfl rfl (RV.assign rfl) ?_
                      refine LW.nil (hK25 _ _ ?_)
                      refine CW.seq fun K26 hK26 => ?_
                      obtain ⟨r5, hr5, F⟩ := bnd_some F
                      refine CW.region ?_
                      refine LW.pure rfl rfl (RV.loadA [.slice A_a0_worth a0.worth.length c_a0_worth] Tk24 rfl (H.blk 3 rfl).cells rfl rfl) ?_
                      refine LW.pure rfl rfl (RV.move rfl) ?_
                      refine LW.pure rfl rfl (RV.move rfl) ?_
                      refine LW.go rfl rfl (OW.call Tc39 rfl (cut_Both_ok (a0 := a0) (a1 := a1) (a2 := r2.1) (h_a0_worth.ext R0) (h_a1.ext R0) (H.own 2 rfl).sl hr5) ?_)
                      rintro _ w20 ⟨A57_0, c57_0, rfl, E13⟩
                      refine ⟨_, rfl, ?_⟩
                      replace H : Hp w w20 [.own A57_0 c57_0 3 1 (List.map encN r5.1), .own A55_0 c55_0 3 1 (List.map encN r4.1), .own A32_0 c32_0 3 1 (List.map encN r1.1), .own A34_0 c34_0 3 1 (List.map encN r2.1), .blk b1 24 [.slice A_a0_worth a0.worth.length c_a0_worth]] := H.append E13
                      replace R0 := H.ext
                      refine LW.pure rfl rfl (RV.move rfl) ?_
                      refine LW.pure rfl rfl (RV.extract rfl rfl) ?_
                      refine LW.pure rfl rfl (RV.extract rfl rfl) ?_
                      refine LW.pure rfl rfl (RV.assign rfl) ?_
                      refine LW.pure rfl rfl (RV.assign rfl) ?_
                      refine LW.nil (hK26 _ _ ?_)
                      refine CW.seq fun K27 hK27 => ?_
                      obtain ⟨r6, hr6, F⟩ := bnd_some F
                      refine CW.region ?_
                      refine LW.pure rfl rfl (RV.loadA [.slice A_a0_worth a0.worth.length c_a0_worth] Tk24 rfl (H.blk 4 rfl).cells rfl rfl) ?_
                      refine LW.pure rfl rfl (RV.move rfl) ?_
                      refine LW.go rfl rfl (OW.call Tc23 rfl (cut_Worth_ok (a0 := a0) (a1 := r4.1) (h_a0_worth.ext R0) (H.own 1 rfl).sl hr6) ?_)
                      rintro _ w21 ⟨rfl, E14⟩
                      refine ⟨_, rfl, ?_⟩
                      replace H := H.grow E14
                      replace R0 := H.ext
                      refine LW.pure rfl rfl (RV.move rfl) ?_
                      refine LW.pure rfl rfl (RV.extract rfl rfl) ?_
                      refine LW.pure rfl rfl (RV.extract rfl rfl) ?_
                      refine LW.pure rfl rfl (RV.assign rfl) ?_
                      refine LW.pure rfl rfl (RV.assign rfl) ?_
                      refine LW.nil (hK27 _ _ ?_)
                      refine CW.seq fun K28 hK28 => ?_
                      obtain ⟨r7, hr7, F⟩ := bnd_some F
                      refine CW.region ?_
                      refine LW.pure rfl rfl (RV.loadA [.slice A_a0_worth a0.worth.length c_a0_worth] Tk24 rfl (H.blk 4 rfl).cells rfl rfl) ?_
                      refine LW.pure rfl rfl (RV.move rfl) ?_
                      refine LW.go rfl rfl (OW.call Tc23 rfl (cut_Worth_ok (a0 := a0) (a1 := r5.1) (h_a0_worth.ext R0) (H.own 0 rfl).sl hr7) ?_)
                      rintro _ w22 ⟨rfl, E15⟩
                      refine ⟨_, rfl, ?_⟩
                      replace H := H.grow E15
                      replace R0 := H.ext
                      refine LW.pure rfl rfl (RV.move rfl) ?_
                      refine LW.pure rfl rfl (RV.extract rfl rfl) ?_
                      refine LW.pure rfl rfl (RV.extract rfl rfl) ?_
                      refine LW.pure rfl rfl (RV.assign rfl) ?_
                      refine LW.pure rfl rfl (RV.assign rfl) ?_
                      refine LW.nil (hK28 _ _ ?_)
                      refine CW.seq fun K29 hK29 => ?_
                      by_cases hp7 : r4.2 = 0
                      ·
                        replace F := ite_y hp7 F
                        have hq7 := dec_t hp7
                        by_cases hp8 : r5.2 = 0
                        ·
                          replace F := ite_y hp8 F
                          have hq8 := dec_t hp8
                          by_cases hp9 : r6.2 = 0
                          ·
                            replace F := ite_y hp9 F
                            have hq9 := dec_t hp9
                            by_cases hp10 : r7.2 = 0
                            ·
                              replace F := ite_y hp10 F
                              have hq10 := dec_t hp10
                              by_cases hp11 : r3.1 ≤ r1.2.1
                              ·
                                replace F := ite_y hp11 F
                                have hq11 := dec_t hp11
                                by_cases hp12 : r3.1 ≤ r6.1
                                ·
                                  replace F := ite_y hp12 F
                                  have hq12 := dec_t hp12
                                  refine CW.region ?_
                                  refine LW.pure rfl rfl (RV.move rfl) ?_
                                  refine LW.pure rfl rfl (RV.eqi rfl rfl) ?_
                                  refine LW.pure rfl rfl (RV.move rfl) ?_
                                  refine LW.pureYB rfl rfl rfl rfl hq7 (RV.move rfl) ?_
                                  refine LW.pureYB rfl rfl rfl rfl hq7 (RV.eqi rfl rfl) ?_
                                  refine LW.pure rfl rfl (RV.pickTB rfl hq7 rfl) ?_
                                  refine LW.pure rfl rfl (RV.move rfl) ?_
                                  refine LW.pureYB rfl rfl rfl rfl hq8 (RV.move rfl) ?_
                                  refine LW.pureYB rfl rfl rfl rfl hq8 (RV.eqi rfl rfl) ?_
                                  refine LW.pure rfl rfl (RV.pickTB rfl hq8 rfl) ?_
                                  refine LW.pure rfl rfl (RV.move rfl) ?_
                                  refine LW.pureYB rfl rfl rfl rfl hq9 (RV.move rfl) ?_
                                  refine LW.pureYB rfl rfl rfl rfl hq9 (RV.eqi rfl rfl) ?_
                                  refine LW.pure rfl rfl (RV.pickTB rfl hq9 rfl) ?_
                                  refine LW.pure rfl rfl (RV.move rfl) ?_
                                  refine LW.pureYB rfl rfl rfl rfl hq10 (RV.move rfl) ?_
                                  refine LW.pureYB rfl rfl rfl rfl hq10 (RV.move rfl) ?_
                                  refine LW.pureYB rfl rfl rfl rfl hq10 (RV.leq rfl rfl) ?_
                                  refine LW.pure rfl rfl (RV.pickTB rfl hq10 rfl) ?_
                                  refine LW.pure rfl rfl (RV.move rfl) ?_
                                  refine LW.pureYB rfl rfl rfl rfl hq11 (RV.move rfl) ?_
                                  refine LW.pureYB rfl rfl rfl rfl hq11 (RV.move rfl) ?_
                                  refine LW.pureYB rfl rfl rfl rfl hq11 (RV.geq rfl rfl) ?_
                                  refine LW.pure rfl rfl (RV.pickTB rfl hq11 rfl) ?_
                                  refine LW.pure rfl rfl (RV.move rfl) ?_
                                  refine LW.pureYB rfl rfl rfl rfl hq12 (RV.move rfl) ?_
                                  refine LW.pureYB rfl rfl rfl rfl hq12 (RV.move rfl) ?_
                                  refine LW.pureYB rfl rfl rfl rfl hq12 (RV.geq rfl rfl) ?_
                                  refine LW.pure rfl rfl (RV.pickTB rfl hq12 rfl) ?_
                                  refine LW.pure rfl rfl (RV.assign rfl) ?_
                                  refine LW.nil (hK29 _ _ ?_)
                                  refine CW.ret ?_
                                  obtain rfl := Option.some.inj F
                                  refine ⟨_, (ResOK.one rfl), ?_⟩
                                  refine ⟨(by first | rfl | simp), R0⟩
                                ·
                                  replace F := ite_n hp12 F
                                  have hq12 := dec_f hp12
                                  refine CW.region ?_
                                  refine LW.pure rfl rfl (RV.move rfl) ?_
                                  refine LW.pure rfl rfl (RV.eqi rfl rfl) ?_
                                  refine LW.pure rfl rfl (RV.move rfl) ?_
                                  refine LW.pureYB rfl rfl rfl rfl hq7 (RV.move rfl) ?_
                                  refine LW.pureYB rfl rfl rfl rfl hq7 (RV.eqi rfl rfl) ?_
                                  refine LW.pure rfl rfl (RV.pickTB rfl hq7 rfl) ?_
                                  refine LW.pure rfl rfl (RV.move rfl) ?_
                                  refine LW.pureYB rfl rfl rfl rfl hq8 (RV.move rfl) ?_
                                  refine LW.pureYB rfl rfl rfl rfl hq8 (RV.eqi rfl rfl) ?_
                                  refine LW.pure rfl rfl (RV.pickTB rfl hq8 rfl) ?_
                                  refine LW.pure rfl rfl (RV.move rfl) ?_
                                  refine LW.pureYB rfl rfl rfl rfl hq9 (RV.move rfl) ?_
                                  refine LW.pureYB rfl rfl rfl rfl hq9 (RV.eqi rfl rfl) ?_
                                  refine LW.pure rfl rfl (RV.pickTB rfl hq9 rfl) ?_
                                  refine LW.pure rfl rfl (RV.move rfl) ?_
                                  refine LW.pureYB rfl rfl rfl rfl hq10 (RV.move rfl) ?_
                                  refine LW.pureYB rfl rfl rfl rfl hq10 (RV.move rfl) ?_
                                  refine LW.pureYB rfl rfl rfl rfl hq10 (RV.leq rfl rfl) ?_
                                  refine LW.pure rfl rfl (RV.pickTB rfl hq10 rfl) ?_
                                  refine LW.pure rfl rfl (RV.move rfl) ?_
                                  refine LW.pureYB rfl rfl rfl rfl hq11 (RV.move rfl) ?_
                                  refine LW.pureYB rfl rfl rfl rfl hq11 (RV.move rfl) ?_
                                  refine LW.pureYB rfl rfl rfl rfl hq11 (RV.geq rfl rfl) ?_
                                  refine LW.pure rfl rfl (RV.pickTB rfl hq11 rfl) ?_
                                  refine LW.pure rfl rfl (RV.move rfl) ?_
                                  refine LW.noB rfl rfl rfl rfl (ne_beq (v := false) hq12 rfl) ?_
                                  refine LW.noB rfl rfl rfl rfl (ne_beq (v := false) hq12 rfl) ?_
                                  refine LW.noB rfl rfl rfl rfl (ne_beq (v := false) hq12 rfl) ?_
                                  refine LW.pure rfl rfl (RV.pickFB rfl hq12 rfl) ?_
                                  refine LW.pure rfl rfl (RV.assign rfl) ?_
                                  refine LW.nil (hK29 _ _ ?_)
                                  refine CW.ret ?_
                                  obtain rfl := Option.some.inj F
                                  refine ⟨_, (ResOK.one rfl), ?_⟩
                                  refine ⟨(by first | rfl | simp), R0⟩
                              ·
                                replace F := ite_n hp11 F
                                have hq11 := dec_f hp11
                                refine CW.region ?_
                                refine LW.pure rfl rfl (RV.move rfl) ?_
                                refine LW.pure rfl rfl (RV.eqi rfl rfl) ?_
                                refine LW.pure rfl rfl (RV.move rfl) ?_
                                refine LW.pureYB rfl rfl rfl rfl hq7 (RV.move rfl) ?_
                                refine LW.pureYB rfl rfl rfl rfl hq7 (RV.eqi rfl rfl) ?_
                                refine LW.pure rfl rfl (RV.pickTB rfl hq7 rfl) ?_
                                refine LW.pure rfl rfl (RV.move rfl) ?_
                                refine LW.pureYB rfl rfl rfl rfl hq8 (RV.move rfl) ?_
                                refine LW.pureYB rfl rfl rfl rfl hq8 (RV.eqi rfl rfl) ?_
                                refine LW.pure rfl rfl (RV.pickTB rfl hq8 rfl) ?_
                                refine LW.pure rfl rfl (RV.move rfl) ?_
                                refine LW.pureYB rfl rfl rfl rfl hq9 (RV.move rfl) ?_
                                refine LW.pureYB rfl rfl rfl rfl hq9 (RV.eqi rfl rfl) ?_
                                refine LW.pure rfl rfl (RV.pickTB rfl hq9 rfl) ?_
                                refine LW.pure rfl rfl (RV.move rfl) ?_
                                refine LW.pureYB rfl rfl rfl rfl hq10 (RV.move rfl) ?_
                                refine LW.pureYB rfl rfl rfl rfl hq10 (RV.move rfl) ?_
                                refine LW.pureYB rfl rfl rfl rfl hq10 (RV.leq rfl rfl) ?_
                                refine LW.pure rfl rfl (RV.pickTB rfl hq10 rfl) ?_
                                refine LW.pure rfl rfl (RV.move rfl) ?_
                                refine LW.noB rfl rfl rfl rfl (ne_beq (v := false) hq11 rfl) ?_
                                refine LW.noB rfl rfl rfl rfl (ne_beq (v := false) hq11 rfl) ?_
                                refine LW.noB rfl rfl rfl rfl (ne_beq (v := false) hq11 rfl) ?_
                                refine LW.pure rfl rfl (RV.pickFB rfl hq11 rfl) ?_
                                refine LW.pure rfl rfl (RV.move rfl) ?_
                                refine LW.noB rfl rfl rfl rfl (ne_beq (v := false) rfl rfl) ?_
                                refine LW.noB rfl rfl rfl rfl (ne_beq (v := false) rfl rfl) ?_
                                refine LW.noB rfl rfl rfl rfl (ne_beq (v := false) rfl rfl) ?_
                                refine LW.pure rfl rfl (RV.pickFB rfl rfl rfl) ?_
                                refine LW.pure rfl rfl (RV.assign rfl) ?_
                                refine LW.nil (hK29 _ _ ?_)
                                refine CW.ret ?_
                                obtain rfl := Option.some.inj F
                                refine ⟨_, (ResOK.one rfl), ?_⟩
                                refine ⟨(by first | rfl | simp), R0⟩
                            ·
                              replace F := ite_n hp10 F
                              have hq10 := dec_f hp10
                              refine CW.region ?_
                              refine LW.pure rfl rfl (RV.move rfl) ?_
                              refine LW.pure rfl rfl (RV.eqi rfl rfl) ?_
                              refine LW.pure rfl rfl (RV.move rfl) ?_
                              refine LW.pureYB rfl rfl rfl rfl hq7 (RV.move rfl) ?_
                              refine LW.pureYB rfl rfl rfl rfl hq7 (RV.eqi rfl rfl) ?_
                              refine LW.pure rfl rfl (RV.pickTB rfl hq7 rfl) ?_
                              refine LW.pure rfl rfl (RV.move rfl) ?_
                              refine LW.pureYB rfl rfl rfl rfl hq8 (RV.move rfl) ?_
                              refine LW.pureYB rfl rfl rfl rfl hq8 (RV.eqi rfl rfl) ?_
                              refine LW.pure rfl rfl (RV.pickTB rfl hq8 rfl) ?_
                              refine LW.pure rfl rfl (RV.move rfl) ?_
                              refine LW.pureYB rfl rfl rfl rfl hq9 (RV.move rfl) ?_
                              refine LW.pureYB rfl rfl rfl rfl hq9 (RV.eqi rfl rfl) ?_
                              refine LW.pure rfl rfl (RV.pickTB rfl hq9 rfl) ?_
                              refine LW.pure rfl rfl (RV.move rfl) ?_
                              refine LW.noB rfl rfl rfl rfl (ne_beq (v := false) hq10 rfl) ?_
                              refine LW.noB rfl rfl rfl rfl (ne_beq (v := false) hq10 rfl) ?_
                              refine LW.noB rfl rfl rfl rfl (ne_beq (v := false) hq10 rfl) ?_
                              refine LW.pure rfl rfl (RV.pickFB rfl hq10 rfl) ?_
                              refine LW.pure rfl rfl (RV.move rfl) ?_
                              refine LW.noB rfl rfl rfl rfl (ne_beq (v := false) rfl rfl) ?_
                              refine LW.noB rfl rfl rfl rfl (ne_beq (v := false) rfl rfl) ?_
                              refine LW.noB rfl rfl rfl rfl (ne_beq (v := false) rfl rfl) ?_
                              refine LW.pure rfl rfl (RV.pickFB rfl rfl rfl) ?_
                              refine LW.pure rfl rfl (RV.move rfl) ?_
                              refine LW.noB rfl rfl rfl rfl (ne_beq (v := false) rfl rfl) ?_
                              refine LW.noB rfl rfl rfl rfl (ne_beq (v := false) rfl rfl) ?_
                              refine LW.noB rfl rfl rfl rfl (ne_beq (v := false) rfl rfl) ?_
                              refine LW.pure rfl rfl (RV.pickFB rfl rfl rfl) ?_
                              refine LW.pure rfl rfl (RV.assign rfl) ?_
                              refine LW.nil (hK29 _ _ ?_)
                              refine CW.ret ?_
                              obtain rfl := Option.some.inj F
                              refine ⟨_, (ResOK.one rfl), ?_⟩
                              refine ⟨(by first | rfl | simp), R0⟩
                          ·
                            replace F := ite_n hp9 F
                            have hq9 := dec_f hp9
                            refine CW.region ?_
                            refine LW.pure rfl rfl (RV.move rfl) ?_
                            refine LW.pure rfl rfl (RV.eqi rfl rfl) ?_
                            refine LW.pure rfl rfl (RV.move rfl) ?_
                            refine LW.pureYB rfl rfl rfl rfl hq7 (RV.move rfl) ?_
                            refine LW.pureYB rfl rfl rfl rfl hq7 (RV.eqi rfl rfl) ?_
                            refine LW.pure rfl rfl (RV.pickTB rfl hq7 rfl) ?_
                            refine LW.pure rfl rfl (RV.move rfl) ?_
                            refine LW.pureYB rfl rfl rfl rfl hq8 (RV.move rfl) ?_
                            refine LW.pureYB rfl rfl rfl rfl hq8 (RV.eqi rfl rfl) ?_
                            refine LW.pure rfl rfl (RV.pickTB rfl hq8 rfl) ?_
                            refine LW.pure rfl rfl (RV.move rfl) ?_
                            refine LW.noB rfl rfl rfl rfl (ne_beq (v := false) hq9 rfl) ?_
                            refine LW.noB rfl rfl rfl rfl (ne_beq (v := false) hq9 rfl) ?_
                            refine LW.pure rfl rfl (RV.pickFB rfl hq9 rfl) ?_
                            refine LW.pure rfl rfl (RV.move rfl) ?_
                            refine LW.noB rfl rfl rfl rfl (ne_beq (v := false) rfl rfl) ?_
                            refine LW.noB rfl rfl rfl rfl (ne_beq (v := false) rfl rfl) ?_
                            refine LW.noB rfl rfl rfl rfl (ne_beq (v := false) rfl rfl) ?_
                            refine LW.pure rfl rfl (RV.pickFB rfl rfl rfl) ?_
                            refine LW.pure rfl rfl (RV.move rfl) ?_
                            refine LW.noB rfl rfl rfl rfl (ne_beq (v := false) rfl rfl) ?_
                            refine LW.noB rfl rfl rfl rfl (ne_beq (v := false) rfl rfl) ?_
                            refine LW.noB rfl rfl rfl rfl (ne_beq (v := false) rfl rfl) ?_
                            refine LW.pure rfl rfl (RV.pickFB rfl rfl rfl) ?_
                            refine LW.pure rfl rfl (RV.move rfl) ?_
                            refine LW.noB rfl rfl rfl rfl (ne_beq (v := false) rfl rfl) ?_
                            refine LW.noB rfl rfl rfl rfl (ne_beq (v := false) rfl rfl) ?_
                            refine LW.noB rfl rfl rfl rfl (ne_beq (v := false) rfl rfl) ?_
                            refine LW.pure rfl rfl (RV.pickFB rfl rfl rfl) ?_
                            refine LW.pure rfl rfl (RV.assign rfl) ?_
                            refine LW.nil (hK29 _ _ ?_)
                            refine CW.ret ?_
                            obtain rfl := Option.some.inj F
                            refine ⟨_, (ResOK.one rfl), ?_⟩
                            refine ⟨(by first | rfl | simp), R0⟩
                        ·
                          replace F := ite_n hp8 F
                          have hq8 := dec_f hp8
                          refine CW.region ?_
                          refine LW.pure rfl rfl (RV.move rfl) ?_
                          refine LW.pure rfl rfl (RV.eqi rfl rfl) ?_
                          refine LW.pure rfl rfl (RV.move rfl) ?_
                          refine LW.pureYB rfl rfl rfl rfl hq7 (RV.move rfl) ?_
                          refine LW.pureYB rfl rfl rfl rfl hq7 (RV.eqi rfl rfl) ?_
                          refine LW.pure rfl rfl (RV.pickTB rfl hq7 rfl) ?_
                          refine LW.pure rfl rfl (RV.move rfl) ?_
                          refine LW.noB rfl rfl rfl rfl (ne_beq (v := false) hq8 rfl) ?_
                          refine LW.noB rfl rfl rfl rfl (ne_beq (v := false) hq8 rfl) ?_
                          refine LW.pure rfl rfl (RV.pickFB rfl hq8 rfl) ?_
                          refine LW.pure rfl rfl (RV.move rfl) ?_
                          refine LW.noB rfl rfl rfl rfl (ne_beq (v := false) rfl rfl) ?_
                          refine LW.noB rfl rfl rfl rfl (ne_beq (v := false) rfl rfl) ?_
                          refine LW.pure rfl rfl (RV.pickFB rfl rfl rfl) ?_
                          refine LW.pure rfl rfl (RV.move rfl) ?_
                          refine LW.noB rfl rfl rfl rfl (ne_beq (v := false) rfl rfl) ?_
                          refine LW.noB rfl rfl rfl rfl (ne_beq (v := false) rfl rfl) ?_
                          refine LW.noB rfl rfl rfl rfl (ne_beq (v := false) rfl rfl) ?_
                          refine LW.pure rfl rfl (RV.pickFB rfl rfl rfl) ?_
                          refine LW.pure rfl rfl (RV.move rfl) ?_
                          refine LW.noB rfl rfl rfl rfl (ne_beq (v := false) rfl rfl) ?_
                          refine LW.noB rfl rfl rfl rfl (ne_beq (v := false) rfl rfl) ?_
                          refine LW.noB rfl rfl rfl rfl (ne_beq (v := false) rfl rfl) ?_
                          refine LW.pure rfl rfl (RV.pickFB rfl rfl rfl) ?_
                          refine LW.pure rfl rfl (RV.move rfl) ?_
                          refine LW.noB rfl rfl rfl rfl (ne_beq (v := false) rfl rfl) ?_
                          refine LW.noB rfl rfl rfl rfl (ne_beq (v := false) rfl rfl) ?_
                          refine LW.noB rfl rfl rfl rfl (ne_beq (v := false) rfl rfl) ?_
                          refine LW.pure rfl rfl (RV.pickFB rfl rfl rfl) ?_
                          refine LW.pure rfl rfl (RV.assign rfl) ?_
                          refine LW.nil (hK29 _ _ ?_)
                          refine CW.ret ?_
                          obtain rfl := Option.some.inj F
                          refine ⟨_, (ResOK.one rfl), ?_⟩
                          refine ⟨(by first | rfl | simp), R0⟩
                      ·
                        replace F := ite_n hp7 F
                        have hq7 := dec_f hp7
                        refine CW.region ?_
                        refine LW.pure rfl rfl (RV.move rfl) ?_
                        refine LW.pure rfl rfl (RV.eqi rfl rfl) ?_
                        refine LW.pure rfl rfl (RV.move rfl) ?_
                        refine LW.noB rfl rfl rfl rfl (ne_beq (v := false) hq7 rfl) ?_
                        refine LW.noB rfl rfl rfl rfl (ne_beq (v := false) hq7 rfl) ?_
                        refine LW.pure rfl rfl (RV.pickFB rfl hq7 rfl) ?_
                        refine LW.pure rfl rfl (RV.move rfl) ?_
                        refine LW.noB rfl rfl rfl rfl (ne_beq (v := false) rfl rfl) ?_
                        refine LW.noB rfl rfl rfl rfl (ne_beq (v := false) rfl rfl) ?_
                        refine LW.pure rfl rfl (RV.pickFB rfl rfl rfl) ?_
                        refine LW.pure rfl rfl (RV.move rfl) ?_
                        refine LW.noB rfl rfl rfl rfl (ne_beq (v := false) rfl rfl) ?_
                        refine LW.noB rfl rfl rfl rfl (ne_beq (v := false) rfl rfl) ?_
                        refine LW.pure rfl rfl (RV.pickFB rfl rfl rfl) ?_
                        refine LW.pure rfl rfl (RV.move rfl) ?_
                        refine LW.noB rfl rfl rfl rfl (ne_beq (v := false) rfl rfl) ?_
                        refine LW.noB rfl rfl rfl rfl (ne_beq (v := false) rfl rfl) ?_
                        refine LW.noB rfl rfl rfl rfl (ne_beq (v := false) rfl rfl) ?_
                        refine LW.pure rfl rfl (RV.pickFB rfl rfl rfl) ?_
                        refine LW.pure rfl rfl (RV.move rfl) ?_
                        refine LW.noB rfl rfl rfl rfl (ne_beq (v := false) rfl rfl) ?_
                        refine LW.noB rfl rfl rfl rfl (ne_beq (v := false) rfl rfl) ?_
                        refine LW.noB rfl rfl rfl rfl (ne_beq (v := false) rfl rfl) ?_
                        refine LW.pure rfl rfl (RV.pickFB rfl rfl rfl) ?_
                        refine LW.pure rfl rfl (RV.move rfl) ?_
                        refine LW.noB rfl rfl rfl rfl (ne_beq (v := false) rfl rfl) ?_
                        refine LW.noB rfl rfl rfl rfl (ne_beq (v := false) rfl rfl) ?_
                        refine LW.noB rfl rfl rfl rfl (ne_beq (v := false) rfl rfl) ?_
                        refine LW.pure rfl rfl (RV.pickFB rfl rfl rfl) ?_
                        refine LW.pure rfl rfl (RV.assign rfl) ?_
                        refine LW.nil (hK29 _ _ ?_)
                        refine CW.ret ?_
                        obtain rfl := Option.some.inj F
                        refine ⟨_, (ResOK.one rfl), ?_⟩
                        refine ⟨(by first | rfl | simp), R0⟩
                    ·
                      replace F := ite_n hp6 F
                      have hq6 := dec_f hp6
                      refine CW.condT rfl (not_t hq6) ?_
                      refine CW.seq fun K30 hK30 => ?_
                      refine CW.region ?_
                      refine LW.pure rfl rfl (RV.assign rfl) ?_
                      refine LW.nil (hK30 _ _ ?_)
                      refine CW.ret ?_
                      obtain rfl := Option.some.inj F
                      refine ⟨_, (ResOK.one rfl), ?_⟩
                      refine ⟨(by first | rfl | simp), R0⟩
                  ·
                    intro K31 hK31 jK81
                    refine CW.seqJ (fun ρ wl5 => (∃ (t154_1 : Bool), top_TopHollows_k3 a0 a1 r1 r2 r8 t154_1 = some res ∧ ρ = [(1, .slice A_a1 a1.length c_a1), (3, .pointer (some (⟨b1, 0, none⟩))), (6, .bool false), (9, .slice A32_0 r1.1.length c32_0), (10, .int .i64 r1.2.1), (11, .slice A34_0 r2.1.length c34_0), (22, .pointer (some (⟨b6, 0, none⟩))), (154, .bool t154_1)] ∧ Hp w wl5 [.own A32_0 c32_0 3 1 (List.map encN r1.1), .own A34_0 c34_0 3 1 (List.map encN r2.1), .tab A47_0_worth c47_0_worth 25 hs47_0_worth 3 1 (encM encN r8.1.worth), .blk b1 24 [.slice A_a0_worth a0.worth.length c_a0_worth], .blk b6 24 [.slice A47_0_worth r8.1.worth.length c47_0_worth]])) ?_ ?_
                    ·
                      rintro _ wl5 ⟨t154_1, F, rfl, H⟩
                      have R0 := H.ext
                      unfold top_TopHollows_k3 at F
                      by_cases hp13 : t154_1 = true
                      ·
                        replace F := ite_y hp13 F
                        have hq13 : t154_1 = true := hp13
                        refine CW.condT rfl hq13 ?_
                        refine CW.seq fun K32 hK32 => ?_
                        obtain ⟨r9, hr9, F⟩ := bnd_some F
                        refine CW.region ?_
                        refine LW.pure rfl rfl (RV.loadA [.slice A47_0_worth r8.1.worth.length c47_0_worth] Tk24 rfl (H.blk 4 rfl).cells rfl rfl) ?_
                        refine LW.go rfl rfl (OW.call Tc30 rfl (cut_Deepest_ok (a0 := r8.1) (H.tab 2 rfl).sl2 hr9) ?_)
                        rintro _ w23 ⟨A63_0, c63_0, rfl, E16⟩
                        refine ⟨_, rfl, ?_⟩
                        replace H : Hp w w23 [.own A63_0 c63_0 3 1 (List.map encN r9.1), .own A32_0 c32_0 3 1 (List.map encN r1.1), .own A34_0 c34_0 3 1 (List.map encN r2.1), .tab A47_0_worth c47_0_worth 25 hs47_0_worth 3 1 (encM encN r8.1.worth), .blk b1 24 [.slice A_a0_worth a0.worth.length c_a0_worth], .blk b6 24 [.slice A47_0_worth r8.1.worth.length c47_0_worth]] := H.append E16
                        replace R0 := H.ext
                        refine LW.pure rfl rfl (RV.move rfl) ?_
                        refine LW.pure rfl rfl (RV.extract rfl rfl) ?_
                        refine LW.pure rfl rfl (RV.extract rfl rfl) ?_
                        refine LW.pure rfl rfl (RV.extract rfl rfl) ?_
                        refine LW.pure rfl rfl (RV.assign rfl) ?_
                        refine LW.pure rfl rfl (RV.assign rfl) ?_
                        refine LW.pure rfl rfl (RV.assign rfl) ?_
                        refine LW.nil (hK32 _ _ ?_)
                        refine CW.seq fun K33 hK33 => ?_
                        obtain ⟨r10, hr10, F⟩ := bnd_some F
                        refine CW.region ?_
                        refine LW.pure rfl rfl (RV.loadA [.slice A_a0_worth a0.worth.length c_a0_worth] Tk24 rfl (H.blk 4 rfl).cells rfl rfl) ?_
                        refine LW.pure rfl rfl (RV.move rfl) ?_
                        refine LW.pure rfl rfl (RV.move rfl) ?_
                        refine LW.go rfl rfl (OW.call Tc39 rfl (cut_Both_ok (a0 := a0) (a1 := r9.1) (a2 := r2.1) (h_a0_worth.ext R0) (H.own 0 rfl).sl (H.own 2 rfl).sl hr10) ?_)
                        rintro _ w24 ⟨A65_0, c65_0, rfl, E17⟩
                        refine ⟨_, rfl, ?_⟩
                        replace H : Hp w w24 [.own A65_0 c65_0 3 1 (List.map encN r10.1), .own A63_0 c63_0 3 1 (List.map encN r9.1), .own A32_0 c32_0 3 1 (List.map encN r1.1), .own A34_0 c34_0 3 1 (List.map encN r2.1), .tab A47_0_worth c47_0_worth 25 hs47_0_worth 3 1 (encM encN r8.1.worth), .blk b1 24 [.slice A_a0_worth a0.worth.length c_a0_worth], .blk b6 24 [.slice A47_0_worth r8.1.worth.length c47_0_worth]] := H.append E17
                        replace R0 := H.ext
                        refine LW.pure rfl rfl (RV.move rfl) ?_
                        refine LW.pure rfl rfl (RV.extract rfl rfl) ?_
                        refine LW.pure rfl rfl (RV.extract rfl rfl) ?_
                        refine LW.pure rfl rfl (RV.assign rfl) ?_
                        refine LW.pure rfl rfl (RV.assign rfl) ?_
                        refine LW.nil (hK33 _ _ ?_)
                        refine CW.seqJ (fun ρ wl6 => (∃ (t179_1 : Bool), top_TopHollows_k2 a0 a1 r1 r2 t179_1 = some res ∧ ρ = [(1, .slice A_a1 a1.length c_a1), (3, .pointer (some (⟨b1, 0, none⟩))), (6, .bool false), (9, .slice A32_0 r1.1.length c32_0), (10, .int .i64 r1.2.1), (11, .slice A34_0 r2.1.length c34_0), (179, .bool t179_1)] ∧ Hp w wl6 [.own A32_0 c32_0 3 1 (List.map encN r1.1), .own A34_0 c34_0 3 1 (List.map encN r2.1), .blk b1 24 [.slice A_a0_worth a0.worth.length c_a0_worth]])) ?_ ?_
                        ·
                          rintro _ wl6 ⟨t179_1, F, rfl, H⟩
                          have R0 := H.ext
                          unfold top_TopHollows_k2 at F
                          by_cases hp14 : t179_1 = true
                          ·
                            replace F := ite_y hp14 F
                            have hq14 : t179_1 = true := hp14
                            refine CW.condT rfl hq14 ?_
                            refine CW.seq fun K34 hK34 => ?_
                            refine CW.region ?_
                            refine LW.pure rfl rfl (RV.assign rfl) ?_
                            refine LW.nil (hK34 _ _ ?_)
                            refine CW.ret ?_
                            obtain rfl := Option.some.inj F
                            refine ⟨_, (ResOK.one rfl), ?_⟩
                            refine ⟨(by first | rfl | simp), R0⟩
                          ·
                            replace F := ite_n hp14 F
                            have hq14 : t179_1 = false := raw_f hp14
                            refine CW.condF rfl hq14 ?_
                            refine CW.skip (jK81 _ _ ⟨_, ?_, ⟨F, rfl, H⟩⟩)
                            exact ⟨rfl, rfl, rfl, (look_slice rfl (by first | rfl | (simp; done) | omega | (simp; omega))), rfl, (look_slice rfl (by first | rfl | (simp; done) | omega | (simp; omega))), trivial⟩
                        ·
                          intro K35 hK35 jK85
                          by_cases hp15 : r9.2.2 = 0
                          ·
                            replace F := ite_y hp15 F
                            have hq15 := dec_t hp15
                            by_cases hp16 : r10.2 = 0
                            ·
                              replace F := ite_y hp16 F
                              have hq16 := dec_t hp16
                              obtain ⟨r11, hr11, F⟩ := bnd_some F
                              refine CW.region ?_
                              refine LW.pure rfl rfl (RV.move rfl) ?_
                              refine LW.pure rfl rfl (RV.nei rfl rfl) ?_
                              refine LW.pure rfl rfl (RV.move rfl) ?_
                              refine LW.pureYB rfl rfl rfl rfl (not_f hq15) (RV.move rfl) ?_
                              refine LW.pureYB rfl rfl rfl rfl (not_f hq15) (RV.nei rfl rfl) ?_
                              refine LW.pure rfl rfl (RV.pickFB rfl (not_f hq15) rfl) ?_
                              refine LW.pure rfl rfl (RV.move rfl) ?_
                              refine LW.pureYB rfl rfl rfl rfl (not_f hq16) (RV.move rfl) ?_
                              refine LW.pureYB rfl rfl rfl rfl (not_f hq16) (RV.move rfl) ?_
                              refine LW.yesB rfl rfl rfl rfl (not_f hq16) (OW.call Tc60 rfl (ref05_SameInts_ok (a0 := r10.1) (a1 := r9.1) (H.own 0 rfl).sl (H.own 1 rfl).sl hr11) ?_)
                              rintro _ w25 ⟨rfl, E18⟩
                              refine ⟨_, rfl, ?_⟩
                              replace H := H.grow E18
                              replace R0 := H.ext
                              refine LW.pureYB rfl rfl rfl rfl (not_f hq16) (RV.not rfl) ?_
                              refine LW.pure rfl rfl (RV.pickFB rfl (not_f hq16) rfl) ?_
                              replace H := H.pick (L' := [.own A32_0 c32_0 3 1 (List.map encN r1.1), .own A34_0 c34_0 3 1 (List.map encN r2.1), .blk b1 24 [.slice A_a0_worth a0.worth.length c_a0_worth]]) [2, 3, 5] (by decide) rfl
                              replace R0 := H.ext
                              refine LW.nil (jK85 _ _ ⟨_, ?_, ⟨(!r11), F, rfl, H⟩⟩)
                              exact ⟨rfl, rfl, rfl, (look_slice rfl (by first | rfl | (simp; done) | omega | (simp; omega))), rfl, (look_slice rfl (by first | rfl | (simp; done) | omega | (simp; omega))), rfl, trivial⟩
                            ·
                              replace F := ite_n hp16 F
                              have hq16 := dec_f hp16
                              refine CW.region ?_
                              refine LW.pure rfl rfl (RV.move rfl) ?_
                              refine LW.pure rfl rfl (RV.nei rfl rfl) ?_
                              refine LW.pure rfl rfl (RV.move rfl) ?_
                              refine LW.pureYB rfl rfl rfl rfl (not_f hq15) (RV.move rfl) ?_
                              refine LW.pureYB rfl rfl rfl rfl (not_f hq15) (RV.nei rfl rfl) ?_
                              refine LW.pure rfl rfl (RV.pickFB rfl (not_f hq15) rfl) ?_
                              refine LW.pure rfl rfl (RV.move rfl) ?_
                              refine LW.noB rfl rfl rfl rfl (ne_beq (v := true) (not_t hq16) rfl) ?_
                              refine LW.noB rfl rfl rfl rfl (ne_beq (v := true) (not_t hq16) rfl) ?_
                              refine LW.noB rfl rfl rfl rfl (ne_beq (v := true) (not_t hq16) rfl) ?_
                              refine LW.noB rfl rfl rfl rfl (ne_beq (v := true) (not_t hq16) rfl) ?_
                              refine LW.pure rfl rfl (RV.pickTB rfl (not_t hq16) rfl) ?_
                              replace H := H.pick (L' := [.own A32_0 c32_0 3 1 (List.map encN r1.1), .own A34_0 c34_0 3 1 (List.map encN r2.1), .blk b1 24 [.slice A_a0_worth a0.worth.length c_a0_worth]]) [2, 3, 5] (by decide) rfl
                              replace R0 := H.ext
                              refine LW.nil (jK85 _ _ ⟨_, ?_, ⟨true, F, rfl, H⟩⟩)
                              exact ⟨rfl, rfl, rfl, (look_slice rfl (by first | rfl | (simp; done) | omega | (simp; omega))), rfl, (look_slice rfl (by first | rfl | (simp; done) | omega | (simp; omega))), rfl, trivial⟩
                          ·
                            replace F := ite_n hp15 F
                            have hq15 := dec_f hp15
                            refine CW.region ?_
                            refine LW.pure rfl rfl (RV.move rfl) ?_
                            refine LW.pure rfl rfl (RV.nei rfl rfl) ?_
                            refine LW.pure rfl rfl (RV.move rfl) ?_
                            refine LW.noB rfl rfl rfl rfl (ne_beq (v := true) (not_t hq15) rfl) ?_
                            refine LW.noB rfl rfl rfl rfl (ne_beq (v := true) (not_t hq15) rfl) ?_
                            refine LW.pure rfl rfl (RV.pickTB rfl (not_t hq15) rfl) ?_
                            refine LW.pure rfl rfl (RV.move rfl) ?_
                            refine LW.noB rfl rfl rfl rfl (ne_beq (v := true) rfl rfl) ?_
                            refine LW.noB rfl rfl rfl rfl (ne_beq (v := true) rfl rfl) ?_
                            refine LW.noB rfl rfl rfl rfl (ne_beq (v := true) rfl rfl) ?_
                            refine LW.noB rfl rfl rfl rfl (ne_beq (v := true) rfl rfl) ?_
                            refine LW.pure rfl rfl (RV.pickTB rfl rfl rfl) ?_
                            replace H := H.pick (L' := [.own A32_0 c32_0 3 1 (List.map encN r1.1), .own A34_0 c34_0 3 1 (List.map encN r2.1), .blk b1 24 [.slice A_a0_worth a0.worth.length c_a0_worth]]) [2, 3, 5] (by decide) rfl
                            replace R0 := H.ext
                            refine LW.nil (jK85 _ _ ⟨_, ?_, ⟨true, F, rfl, H⟩⟩)
                            exact ⟨rfl, rfl, rfl, (look_slice rfl (by first | rfl | (simp; done) | omega | (simp; omega))), rfl, (look_slice rfl (by first | rfl | (simp; done) | omega | (simp; omega))), rfl, trivial⟩
                      ·
                        replace F := ite_n hp13 F
                        have hq13 : t154_1 = false := raw_f hp13
                        refine CW.condF rfl hq13 ?_
                        replace H := H.pick (L' := [.own A32_0 c32_0 3 1 (List.map encN r1.1), .own A34_0 c34_0 3 1 (List.map encN r2.1), .blk b1 24 [.slice A_a0_worth a0.worth.length c_a0_worth]]) [0, 1, 3] (by decide) rfl
                        replace R0 := H.ext
                        refine CW.skip (jK81 _ _ ⟨_, ?_, ⟨F, rfl, H⟩⟩)
                        exact ⟨rfl, rfl, rfl, (look_slice rfl (by first | rfl | (simp; done) | omega | (simp; omega))), rfl, (look_slice rfl (by first | rfl | (simp; done) | omega | (simp; omega))), trivial⟩
                    ·
                      intro K36 hK36 jK86
                      by_cases hp17 : r8.2 = 0
                      ·
                        replace F := ite_y hp17 F
                        have hq17 := dec_t hp17
                        refine CW.region ?_
                        refine LW.pure rfl rfl (RV.move rfl) ?_
                        refine LW.pure rfl rfl (RV.eqi rfl rfl) ?_
                        refine LW.pure rfl rfl (RV.move rfl) ?_
                        refine LW.pureYB rfl rfl rfl rfl hq17 (RV.move rfl) ?_
                        refine LW.pureYB rfl rfl rfl rfl hq17 (RV.geq rfl rfl) ?_
                        refine LW.pure rfl rfl (RV.pickTB rfl hq17 rfl) ?_
                        replace H := H.pick (L' := [.own A32_0 c32_0 3 1 (List.map encN r1.1), .own A34_0 c34_0 3 1 (List.map encN r2.1), .tab A47_0_worth c47_0_worth 25 hs47_0_worth 3 1 (encM encN r8.1.worth), .blk b1 24 [.slice A_a0_worth a0.worth.length c_a0_worth], .blk b6 24 [.slice A47_0_worth r8.1.worth.length c47_0_worth]]) [2, 3, 1, 4, 0] (by decide) rfl
                        replace R0 := H.ext
                        refine LW.nil (jK86 _ _ ⟨_, ?_, ⟨(decide ((0 : Int) ≤ a2)), F, rfl, H⟩⟩)
                        exact ⟨rfl, rfl, rfl, (look_slice rfl (by first | rfl | (simp; done) | omega | (simp; omega))), rfl, (look_slice rfl (by first | rfl | (simp; done) | omega | (simp; omega))), rfl, rfl, trivial⟩
                      ·
                        replace F := ite_n hp17 F
                        have hq17 := dec_f hp17
                        refine CW.region ?_
                        refine LW.pure rfl rfl (RV.move rfl) ?_
                        refine LW.pure rfl rfl (RV.eqi rfl rfl) ?_
                        refine LW.pure rfl rfl (RV.move rfl) ?_
                        refine LW.noB rfl rfl rfl rfl (ne_beq (v := false) hq17 rfl) ?_
                        refine LW.noB rfl rfl rfl rfl (ne_beq (v := false) hq17 rfl) ?_
                        refine LW.pure rfl rfl (RV.pickFB rfl hq17 rfl) ?_
                        replace H := H.pick (L' := [.own A32_0 c32_0 3 1 (List.map encN r1.1), .own A34_0 c34_0 3 1 (List.map encN r2.1), .tab A47_0_worth c47_0_worth 25 hs47_0_worth 3 1 (encM encN r8.1.worth), .blk b1 24 [.slice A_a0_worth a0.worth.length c_a0_worth], .blk b6 24 [.slice A47_0_worth r8.1.worth.length c47_0_worth]]) [2, 3, 1, 4, 0] (by decide) rfl
                        replace R0 := H.ext
                        refine LW.nil (jK86 _ _ ⟨_, ?_, ⟨false, F, rfl, H⟩⟩)
                        exact ⟨rfl, rfl, rfl, (look_slice rfl (by first | rfl | (simp; done) | omega | (simp; omega))), rfl, (look_slice rfl (by first | rfl | (simp; done) | omega | (simp; omega))), rfl, rfl, trivial⟩
              ·
                intro K37 hK37 jK87
                by_cases hp18 : r13.2 = 0
                ·
                  replace F := ite_y hp18 F
                  have hq18 := dec_t hp18
                  by_cases hp19 : r14.2 = 0
                  ·
                    replace F := ite_y hp19 F
                    have hq19 := dec_t hp19
                    by_cases hp20 : r15.2.2 = 0
                    ·
                      replace F := ite_y hp20 F
                      have hq20 := dec_t hp20
                      by_cases hp21 : r16.2 = 0
                      ·
                        replace F := ite_y hp21 F
                        have hq21 := dec_t hp21
                        by_cases hp22 : r1.2.1 = r2.2.1
                        ·
                          replace F := ite_y hp22 F
                          have hq22 := dec_t hp22
                          by_cases hp23 : r13.1 = r1.2.1
                          ·
                            replace F := ite_y hp23 F
                            have hq23 := dec_t hp23
                            by_cases hp24 : r16.1 = r1.2.1
                            ·
                              replace F := ite_y hp24 F
                              have hq24 := dec_t hp24
                              obtain ⟨r17, hr17, F⟩ := bnd_some F
                              refine CW.region ?_
                              refine LW.pure rfl rfl (RV.move rfl) ?_
                              refine LW.pure rfl rfl (RV.nei rfl rfl) ?_
                              refine LW.pure rfl rfl (RV.move rfl) ?_
                              refine LW.pureYB rfl rfl rfl rfl (not_f hq18) (RV.move rfl) ?_
                              refine LW.pureYB rfl rfl rfl rfl (not_f hq18) (RV.nei rfl rfl) ?_
                              refine LW.pure rfl rfl (RV.pickFB rfl (not_f hq18) rfl) ?_
                              refine LW.pure rfl rfl (RV.move rfl) ?_
                              refine LW.pureYB rfl rfl rfl rfl (not_f hq19) (RV.move rfl) ?_
                              refine LW.pureYB rfl rfl rfl rfl (not_f hq19) (RV.nei rfl rfl) ?_
                              refine LW.pure rfl rfl (RV.pickFB rfl (not_f hq19) rfl) ?_
                              refine LW.pure rfl rfl (RV.move rfl) ?_
                              refine LW.pureYB rfl rfl rfl rfl (not_f hq20) (RV.move rfl) ?_
                              refine LW.pureYB rfl rfl rfl rfl (not_f hq20) (RV.nei rfl rfl) ?_
                              refine LW.pure rfl rfl (RV.pickFB rfl (not_f hq20) rfl) ?_
                              refine LW.pure rfl rfl (RV.move rfl) ?_
                              refine LW.pureYB rfl rfl rfl rfl (not_f hq21) (RV.move rfl) ?_
                              refine LW.pureYB rfl rfl rfl rfl (not_f hq21) (RV.move rfl) ?_
                              refine LW.pureYB rfl rfl rfl rfl (not_f hq21) (RV.nei rfl rfl) ?_
                              refine LW.pure rfl rfl (RV.pickFB rfl (not_f hq21) rfl) ?_
                              refine LW.pure rfl rfl (RV.move rfl) ?_
                              refine LW.pureYB rfl rfl rfl rfl (not_f hq22) (RV.move rfl) ?_
                              refine LW.pureYB rfl rfl rfl rfl (not_f hq22) (RV.move rfl) ?_
                              refine LW.pureYB rfl rfl rfl rfl (not_f hq22) (RV.nei rfl rfl) ?_
                              refine LW.pure rfl rfl (RV.pickFB rfl (not_f hq22) rfl) ?_
                              refine LW.pure rfl rfl (RV.move rfl) ?_
                              refine LW.pureYB rfl rfl rfl rfl (not_f hq23) (RV.move rfl) ?_
                              refine LW.pureYB rfl rfl rfl rfl (not_f hq23) (RV.move rfl) ?_
                              refine LW.pureYB rfl rfl rfl rfl (not_f hq23) (RV.nei rfl rfl) ?_
                              refine LW.pure rfl rfl (RV.pickFB rfl (not_f hq23) rfl) ?_
                              refine LW.pure rfl rfl (RV.move rfl) ?_
                              refine LW.pureYB rfl rfl rfl rfl (not_f hq24) (RV.move rfl) ?_
                              refine LW.pureYB rfl rfl rfl rfl (not_f hq24) (RV.move rfl) ?_
                              refine LW.yesB rfl rfl rfl rfl (not_f hq24) (OW.call Tc60 rfl (ref05_SameInts_ok (a0 := r15.1) (a1 := r2.1) (H.own 0 rfl).sl (H.own 3 rfl).sl hr17) ?_)
                              rintro _ w26 ⟨rfl, E19⟩
                              refine ⟨_, rfl, ?_⟩
                              replace H := H.grow E19
                              replace R0 := H.ext
                              refine LW.pureYB rfl rfl rfl rfl (not_f hq24) (RV.not rfl) ?_
                              refine LW.pure rfl rfl (RV.pickFB rfl (not_f hq24) rfl) ?_
                              replace H := H.pick (L' := [.own A32_0 c32_0 3 1 (List.map encN r1.1), .own A34_0 c34_0 3 1 (List.map encN r2.1), .blk b1 24 [.slice A_a0_worth a0.worth.length c_a0_worth]]) [2, 3, 5] (by decide) rfl
                              replace R0 := H.ext
                              refine LW.nil (jK87 _ _ ⟨_, ?_, ⟨(!r17), F, rfl, H⟩⟩)
                              exact ⟨rfl, rfl, rfl, rfl, (look_slice rfl (by first | rfl | (simp; done) | omega | (simp; omega))), rfl, (look_slice rfl (by first | rfl | (simp; done) | omega | (simp; omega))), rfl, trivial⟩
                            ·
                              replace F := ite_n hp24 F
                              have hq24 := dec_f hp24
                              refine CW.region ?_
                              refine LW.pure rfl rfl (RV.move rfl) ?_
                              refine LW.pure rfl rfl (RV.nei rfl rfl) ?_
                              refine LW.pure rfl rfl (RV.move rfl) ?_
                              refine LW.pureYB rfl rfl rfl rfl (not_f hq18) (RV.move rfl) ?_
                              refine LW.pureYB rfl rfl rfl rfl (not_f hq18) (RV.nei rfl rfl) ?_
                              refine LW.pure rfl rfl (RV.pickFB rfl (not_f hq18) rfl) ?_
                              refine LW.pure rfl rfl (RV.move rfl) ?_
                              refine LW.pureYB rfl rfl rfl rfl (not_f hq19) (RV.move rfl) ?_
                              refine LW.pureYB rfl rfl rfl rfl (not_f hq19) (RV.nei rfl rfl) ?_
                              refine LW.pure rfl rfl (RV.pickFB rfl (not_f hq19) rfl) ?_
                              refine LW.pure rfl rfl (RV.move rfl) ?_
                              refine LW.pureYB rfl rfl rfl rfl (not_f hq20) (RV.move rfl) ?_
                              refine LW.pureYB rfl rfl rfl rfl (not_f hq20) (RV.nei rfl rfl) ?_
                              refine LW.pure rfl rfl (RV.pickFB rfl (not_f hq20) rfl) ?_
                              refine LW.pure rfl rfl (RV.move rfl) ?_
                              refine LW.pureYB rfl rfl rfl rfl (not_f hq21) (RV.move rfl) ?_
                              refine LW.pureYB rfl rfl rfl rfl (not_f hq21) (RV.move rfl) ?_
                              refine LW.pureYB rfl rfl rfl rfl (not_f hq21) (RV.nei rfl rfl) ?_
                              refine LW.pure rfl rfl (RV.pickFB rfl (not_f hq21) rfl) ?_
                              refine LW.pure rfl rfl (RV.move rfl) ?_
                              refine LW.pureYB rfl rfl rfl rfl (not_f hq22) (RV.move rfl) ?_
                              refine LW.pureYB rfl rfl rfl rfl (not_f hq22) (RV.move rfl) ?_
                              refine LW.pureYB rfl rfl rfl rfl (not_f hq22) (RV.nei rfl rfl) ?_
                              refine LW.pure rfl rfl (RV.pickFB rfl (not_f hq22) rfl) ?_
                              refine LW.pure rfl rfl (RV.move rfl) ?_
                              refine LW.pureYB rfl rfl rfl rfl (not_f hq23) (RV.move rfl) ?_
                              refine LW.pureYB rfl rfl rfl rfl (not_f hq23) (RV.move rfl) ?_
                              refine LW.pureYB rfl rfl rfl rfl (not_f hq23) (RV.nei rfl rfl) ?_
                              refine LW.pure rfl rfl (RV.pickFB rfl (not_f hq23) rfl) ?_
                              refine LW.pure rfl rfl (RV.move rfl) ?_
                              refine LW.noB rfl rfl rfl rfl (ne_beq (v := true) (not_t hq24) rfl) ?_
                              refine LW.noB rfl rfl rfl rfl (ne_beq (v := true) (not_t hq24) rfl) ?_
                              refine LW.noB rfl rfl rfl rfl (ne_beq (v := true) (not_t hq24) rfl) ?_
                              refine LW.noB rfl rfl rfl rfl (ne_beq (v := true) (not_t hq24) rfl) ?_
                              refine LW.pure rfl rfl (RV.pickTB rfl (not_t hq24) rfl) ?_
                              replace H := H.pick (L' := [.own A32_0 c32_0 3 1 (List.map encN r1.1), .own A34_0 c34_0 3 1 (List.map encN r2.1), .blk b1 24 [.slice A_a0_worth a0.worth.length c_a0_worth]]) [2, 3, 5] (by decide) rfl
                              replace R0 := H.ext
                              refine LW.nil (jK87 _ _ ⟨_, ?_, ⟨true, F, rfl, H⟩⟩)
                              exact ⟨rfl, rfl, rfl, rfl, (look_slice rfl (by first | rfl | (simp; done) | omega | (simp; omega))), rfl, (look_slice rfl (by first | rfl | (simp; done) | omega | (simp; omega))), rfl, trivial⟩
                          ·
                            replace F := ite_n hp23 F
                            have hq23 := dec_f hp23
                            refine CW.region ?_
                            refine LW.pure rfl rfl (RV.move rfl) ?_
                            refine LW.pure rfl rfl (RV.nei rfl rfl) ?_
                            refine LW.pure rfl rfl (RV.move rfl) ?_
                            refine LW.pureYB rfl rfl rfl rfl (not_f hq18) (RV.move rfl) ?_
                            refine LW.pureYB rfl rfl rfl rfl (not_f hq18) (RV.nei rfl rfl) ?_
                            refine LW.pure rfl rfl (RV.pickFB rfl (not_f hq18) rfl) ?_
                            refine LW.pure rfl rfl (RV.move rfl) ?_
                            refine LW.pureYB rfl rfl rfl rfl (not_f hq19) (RV.move rfl) ?_
                            refine LW.pureYB rfl rfl rfl rfl (not_f hq19) (RV.nei rfl rfl) ?_
                            refine LW.pure rfl rfl (RV.pickFB rfl (not_f hq19) rfl) ?_
                            refine LW.pure rfl rfl (RV.move rfl) ?_
                            refine LW.pureYB rfl rfl rfl rfl (not_f hq20) (RV.move rfl) ?_
                            refine LW.pureYB rfl rfl rfl rfl (not_f hq20) (RV.nei rfl rfl) ?_
                            refine LW.pure rfl rfl (RV.pickFB rfl (not_f hq20) rfl) ?_
                            refine LW.pure rfl rfl (RV.move rfl) ?_
                            refine LW.pureYB rfl rfl rfl rfl (not_f hq21) (RV.move rfl) ?_
                            refine LW.pureYB rfl rfl rfl rfl (not_f hq21) (RV.move rfl) ?_
                            refine LW.pureYB rfl rfl rfl rfl (not_f hq21) (RV.nei rfl rfl) ?_
                            refine LW.pure rfl rfl (RV.pickFB rfl (not_f hq21) rfl) ?_
                            refine LW.pure rfl rfl (RV.move rfl) ?_
                            refine LW.pureYB rfl rfl rfl rfl (not_f hq22) (RV.move rfl) ?_
                            refine LW.pureYB rfl rfl rfl rfl (not_f hq22) (RV.move rfl) ?_
                            refine LW.pureYB rfl rfl rfl rfl (not_f hq22) (RV.nei rfl rfl) ?_
                            refine LW.pure rfl rfl (RV.pickFB rfl (not_f hq22) rfl) ?_
                            refine LW.pure rfl rfl (RV.move rfl) ?_
                            refine LW.noB rfl rfl rfl rfl (ne_beq (v := true) (not_t hq23) rfl) ?_
                            refine LW.noB rfl rfl rfl rfl (ne_beq (v := true) (not_t hq23) rfl) ?_
                            refine LW.noB rfl rfl rfl rfl (ne_beq (v := true) (not_t hq23) rfl) ?_
                            refine LW.pure rfl rfl (RV.pickTB rfl (not_t hq23) rfl) ?_
                            refine LW.pure rfl rfl (RV.move rfl) ?_
                            refine LW.noB rfl rfl rfl rfl (ne_beq (v := true) rfl rfl) ?_
                            refine LW.noB rfl rfl rfl rfl (ne_beq (v := true) rfl rfl) ?_
                            refine LW.noB rfl rfl rfl rfl (ne_beq (v := true) rfl rfl) ?_
                            refine LW.noB rfl rfl rfl rfl (ne_beq (v := true) rfl rfl) ?_
                            refine LW.pure rfl rfl (RV.pickTB rfl rfl rfl) ?_
                            replace H := H.pick (L' := [.own A32_0 c32_0 3 1 (List.map encN r1.1), .own A34_0 c34_0 3 1 (List.map encN r2.1), .blk b1 24 [.slice A_a0_worth a0.worth.length c_a0_worth]]) [2, 3, 5] (by decide) rfl
                            replace R0 := H.ext
                            refine LW.nil (jK87 _ _ ⟨_, ?_, ⟨true, F, rfl, H⟩⟩)
                            exact ⟨rfl, rfl, rfl, rfl, (look_slice rfl (by first | rfl | (simp; done) | omega | (simp; omega))), rfl, (look_slice rfl (by first | rfl | (simp; done) | omega | (simp; omega))), rfl, trivial⟩
                        ·
                          replace F := ite_n hp22 F
                          have hq22 := dec_f hp22
                          refine CW.region ?_
                          refine LW.pure rfl rfl (RV.move rfl) ?_
                          refine LW.pure rfl rfl (RV.nei rfl rfl) ?_
                          refine LW.pure rfl rfl (RV.move rfl) ?_
                          refine LW.pureYB rfl rfl rfl rfl (not_f hq18) (RV.move rfl) ?_
                          refine LW.pureYB rfl rfl rfl rfl (not_f hq18) (RV.nei rfl rfl) ?_
                          refine LW.pure rfl rfl (RV.pickFB rfl (not_f hq18) rfl) ?_
                          refine LW.pure rfl rfl (RV.move rfl) ?_
                          refine LW.pureYB rfl rfl rfl rfl (not_f hq19) (RV.move rfl) ?_
                          refine LW.pureYB rfl rfl rfl rfl (not_f hq19) (RV.nei rfl rfl) ?_
                          refine LW.pure rfl rfl (RV.pickFB rfl (not_f hq19) rfl) ?_
                          refine LW.pure rfl rfl (RV.move rfl) ?_
                          refine LW.pureYB rfl rfl rfl rfl (not_f hq20) (RV.move rfl) ?_
                          refine LW.pureYB rfl rfl rfl rfl (not_f hq20) (RV.nei rfl rfl) ?_
                          refine LW.pure rfl rfl (RV.pickFB rfl (not_f hq20) rfl) ?_
                          refine LW.pure rfl rfl (RV.move rfl) ?_
                          refine LW.pureYB rfl rfl rfl rfl (not_f hq21) (RV.move rfl) ?_
                          refine LW.pureYB rfl rfl rfl rfl (not_f hq21) (RV.move rfl) ?_
                          refine LW.pureYB rfl rfl rfl rfl (not_f hq21) (RV.nei rfl rfl) ?_
                          refine LW.pure rfl rfl (RV.pickFB rfl (not_f hq21) rfl) ?_
                          refine LW.pure rfl rfl (RV.move rfl) ?_
                          refine LW.noB rfl rfl rfl rfl (ne_beq (v := true) (not_t hq22) rfl) ?_
                          refine LW.noB rfl rfl rfl rfl (ne_beq (v := true) (not_t hq22) rfl) ?_
                          refine LW.noB rfl rfl rfl rfl (ne_beq (v := true) (not_t hq22) rfl) ?_
                          refine LW.pure rfl rfl (RV.pickTB rfl (not_t hq22) rfl) ?_
                          refine LW.pure rfl rfl (RV.move rfl) ?_
                          refine LW.noB rfl rfl rfl rfl (ne_beq (v := true) rfl rfl) ?_
                          refine LW.noB rfl rfl rfl rfl (ne_beq (v := true) rfl rfl) ?_
                          refine LW.noB rfl rfl rfl rfl (ne_beq (v := true) rfl rfl) ?_
                          refine LW.pure rfl rfl (RV.pickTB rfl rfl rfl) ?_
                          refine LW.pure rfl rfl (RV.move rfl) ?_
                          refine LW.noB rfl rfl rfl rfl (ne_beq (v := true) rfl rfl) ?_
                          refine LW.noB rfl rfl rfl rfl (ne_beq (v := true) rfl rfl) ?_
                          refine LW.noB rfl rfl rfl rfl (ne_beq (v := true) rfl rfl) ?_
                          refine LW.noB rfl rfl rfl rfl (ne_beq (v := true) rfl rfl) ?_
                          refine LW.pure rfl rfl (RV.pickTB rfl rfl rfl) ?_
                          replace H := H.pick (L' := [.own A32_0 c32_0 3 1 (List.map encN r1.1), .own A34_0 c34_0 3 1 (List.map encN r2.1), .blk b1 24 [.slice A_a0_worth a0.worth.length c_a0_worth]]) [2, 3, 5] (by decide) rfl
                          replace R0 := H.ext
                          refine LW.nil (jK87 _ _ ⟨_, ?_, ⟨true, F, rfl, H⟩⟩)
                          exact ⟨rfl, rfl, rfl, rfl, (look_slice rfl (by first | rfl | (simp; done) | omega | (simp; omega))), rfl, (look_slice rfl (by first | rfl | (simp; done) | omega | (simp; omega))), rfl, trivial⟩
                      ·
                        replace F := ite_n hp21 F
                        have hq21 := dec_f hp21
                        refine CW.region ?_
                        refine LW.pure rfl rfl (RV.move rfl) ?_
                        refine LW.pure rfl rfl (RV.nei rfl rfl) ?_
                        refine LW.pure rfl rfl (RV.move rfl) ?_
                        refine LW.pureYB rfl rfl rfl rfl (not_f hq18) (RV.move rfl) ?_
                        refine LW.pureYB rfl rfl rfl rfl (not_f hq18) (RV.nei rfl rfl) ?_
                        refine LW.pure rfl rfl (RV.pickFB rfl (not_f hq18) rfl) ?_
                        refine LW.pure rfl rfl (RV.move rfl) ?_
                        refine LW.pureYB rfl rfl rfl rfl (not_f hq19) (RV.move rfl) ?_
                        refine LW.pureYB rfl rfl rfl rfl (not_f hq19) (RV.nei rfl rfl) ?_
                        refine LW.pure rfl rfl (RV.pickFB rfl (not_f hq19) rfl) ?_
                        refine LW.pure rfl rfl (RV.move rfl) ?_
                        refine LW.pureYB rfl rfl rfl rfl (not_f hq20) (RV.move rfl) ?_
                        refine LW.pureYB rfl rfl rfl rfl (not_f hq20) (RV.nei rfl rfl) ?_
                        refine LW.pure rfl rfl (RV.pickFB rfl (not_f hq20) rfl) ?_
                        refine LW.pure rfl rfl (RV.move rfl) ?_
                        refine LW.noB rfl rfl rfl rfl (ne_beq (v := true) (not_t hq21) rfl) ?_
                        refine LW.noB rfl rfl rfl rfl (ne_beq (v := true) (not_t hq21) rfl) ?_
                        refine LW.noB rfl rfl rfl rfl (ne_beq (v := true) (not_t hq21) rfl) ?_
                        refine LW.pure rfl rfl (RV.pickTB rfl (not_t hq21) rfl) ?_
                        refine LW.pure rfl rfl (RV.move rfl) ?_
                        refine LW.noB rfl rfl rfl rfl (ne_beq (v := true) rfl rfl) ?_
                        refine LW.noB rfl rfl rfl rfl (ne_beq (v := true) rfl rfl) ?_
                        refine LW.noB rfl rfl rfl rfl (ne_beq (v := true) rfl rfl) ?_
                        refine LW.pure rfl rfl (RV.pickTB rfl rfl rfl) ?_
                        refine LW.pure rfl rfl (RV.move rfl) ?_
                        refine LW.noB rfl rfl rfl rfl (ne_beq (v := true) rfl rfl) ?_
                        refine LW.noB rfl rfl rfl rfl (ne_beq (v := true) rfl rfl) ?_
                        refine LW.noB rfl rfl rfl rfl (ne_beq (v := true) rfl rfl) ?_
                        refine LW.pure rfl rfl (RV.pickTB rfl rfl rfl) ?_
                        refine LW.pure rfl rfl (RV.move rfl) ?_
                        refine LW.noB rfl rfl rfl rfl (ne_beq (v := true) rfl rfl) ?_
                        refine LW.noB rfl rfl rfl rfl (ne_beq (v := true) rfl rfl) ?_
                        refine LW.noB rfl rfl rfl rfl (ne_beq (v := true) rfl rfl) ?_
                        refine LW.noB rfl rfl rfl rfl (ne_beq (v := true) rfl rfl) ?_
                        refine LW.pure rfl rfl (RV.pickTB rfl rfl rfl) ?_
                        replace H := H.pick (L' := [.own A32_0 c32_0 3 1 (List.map encN r1.1), .own A34_0 c34_0 3 1 (List.map encN r2.1), .blk b1 24 [.slice A_a0_worth a0.worth.length c_a0_worth]]) [2, 3, 5] (by decide) rfl
                        replace R0 := H.ext
                        refine LW.nil (jK87 _ _ ⟨_, ?_, ⟨true, F, rfl, H⟩⟩)
                        exact ⟨rfl, rfl, rfl, rfl, (look_slice rfl (by first | rfl | (simp; done) | omega | (simp; omega))), rfl, (look_slice rfl (by first | rfl | (simp; done) | omega | (simp; omega))), rfl, trivial⟩
                    ·
                      replace F := ite_n hp20 F
                      have hq20 := dec_f hp20
                      refine CW.region ?_
                      refine LW.pure rfl rfl (RV.move rfl) ?_
                      refine LW.pure rfl rfl (RV.nei rfl rfl) ?_
                      refine LW.pure rfl rfl (RV.move rfl) ?_
                      refine LW.pureYB rfl rfl rfl rfl (not_f hq18) (RV.move rfl) ?_
                      refine LW.pureYB rfl rfl rfl rfl (not_f hq18) (RV.nei rfl rfl) ?_
                      refine LW.pure rfl rfl (RV.pickFB rfl (not_f hq18) rfl) ?_
                      refine LW.pure rfl rfl (RV.move rfl) ?_
                      refine LW.pureYB rfl rfl rfl rfl (not_f hq19) (RV.move rfl) ?_
                      refine LW.pureYB rfl rfl rfl rfl (not_f hq19) (RV.nei rfl rfl) ?_
                      refine LW.pure rfl rfl (RV.pickFB rfl (not_f hq19) rfl) ?_
                      refine LW.pure rfl rfl (RV.move rfl) ?_
                      refine LW.noB rfl rfl rfl rfl (ne_beq (v := true) (not_t hq20) rfl) ?_
                      refine LW.noB rfl rfl rfl rfl (ne_beq (v := true) (not_t hq20) rfl) ?_
                      refine LW.pure rfl rfl (RV.pickTB rfl (not_t hq20) rfl) ?_
                      refine LW.pure rfl rfl (RV.move rfl) ?_
                      refine LW.noB rfl rfl rfl rfl (ne_beq (v := true) rfl rfl) ?_
                      refine LW.noB rfl rfl rfl rfl (ne_beq (v := true) rfl rfl) ?_
                      refine LW.noB rfl rfl rfl rfl (ne_beq (v := true) rfl rfl) ?_
                      refine LW.pure rfl rfl (RV.pickTB rfl rfl rfl) ?_
                      refine LW.pure rfl rfl (RV.move rfl) ?_
                      refine LW.noB rfl rfl rfl rfl (ne_beq (v := true) rfl rfl) ?_
                      refine LW.noB rfl rfl rfl rfl (ne_beq (v := true) rfl rfl) ?_
                      refine LW.noB rfl rfl rfl rfl (ne_beq (v := true) rfl rfl) ?_
                      refine LW.pure rfl rfl (RV.pickTB rfl rfl rfl) ?_
                      refine LW.pure rfl rfl (RV.move rfl) ?_
                      refine LW.noB rfl rfl rfl rfl (ne_beq (v := true) rfl rfl) ?_
                      refine LW.noB rfl rfl rfl rfl (ne_beq (v := true) rfl rfl) ?_
                      refine LW.noB rfl rfl rfl rfl (ne_beq (v := true) rfl rfl) ?_
                      refine LW.pure rfl rfl (RV.pickTB rfl rfl rfl) ?_
                      refine LW.pure rfl rfl (RV.move rfl) ?_
                      refine LW.noB rfl rfl rfl rfl (ne_beq (v := true) rfl rfl) ?_
                      refine LW.noB rfl rfl rfl rfl (ne_beq (v := true) rfl rfl) ?_
                      refine LW.noB rfl rfl rfl rfl (ne_beq (v := true) rfl rfl) ?_
                      refine LW.noB rfl rfl rfl rfl (ne_beq (v := true) rfl rfl) ?_
                      refine LW.pure rfl rfl (RV.pickTB rfl rfl rfl) ?_
                      replace H := H.pick (L' := [.own A32_0 c32_0 3 1 (List.map encN r1.1), .own A34_0 c34_0 3 1 (List.map encN r2.1), .blk b1 24 [.slice A_a0_worth a0.worth.length c_a0_worth]]) [2, 3, 5] (by decide) rfl
                      replace R0 := H.ext
                      refine LW.nil (jK87 _ _ ⟨_, ?_, ⟨true, F, rfl, H⟩⟩)
                      exact ⟨rfl, rfl, rfl, rfl, (look_slice rfl (by first | rfl | (simp; done) | omega | (simp; omega))), rfl, (look_slice rfl (by first | rfl | (simp; done) | omega | (simp; omega))), rfl, trivial⟩
                  ·
                    replace F := ite_n hp19 F
                    have hq19 := dec_f hp19
                    refine CW.region ?_
                    refine LW.pure rfl rfl (RV.move rfl) ?_
                    refine LW.pure rfl rfl (RV.nei rfl rfl) ?_
                    refine LW.pure rfl rfl (RV.move rfl) ?_
                    refine LW.pureYB rfl rfl rfl rfl (not_f hq18) (RV.move rfl) ?_
                    refine LW.pureYB rfl rfl rfl rfl (not_f hq18) (RV.nei rfl rfl) ?_
                    refine LW.pure rfl rfl (RV.pickFB rfl (not_f hq18) rfl) ?_
                    refine LW.pure rfl rfl (RV.move rfl) ?_
                    refine LW.noB rfl rfl rfl rfl (ne_beq (v := true) (not_t hq19) rfl) ?_
                    refine LW.noB rfl rfl rfl rfl (ne_beq (v := true) (not_t hq19) rfl) ?_
                    refine LW.pure rfl rfl (RV.pickTB rfl (not_t hq19) rfl) ?_
                    refine LW.pure rfl rfl (RV.move rfl) ?_
                    refine LW.noB rfl rfl rfl rfl (ne_beq (v := true) rfl rfl) ?_
                    refine LW.noB rfl rfl rfl rfl (ne_beq (v := true) rfl rfl) ?_
                    refine LW.pure rfl rfl (RV.pickTB rfl rfl rfl) ?_
                    refine LW.pure rfl rfl (RV.move rfl) ?_
                    refine LW.noB rfl rfl rfl rfl (ne_beq (v := true) rfl rfl) ?_
                    refine LW.noB rfl rfl rfl rfl (ne_beq (v := true) rfl rfl) ?_
                    refine LW.noB rfl rfl rfl rfl (ne_beq (v := true) rfl rfl) ?_
                    refine LW.pure rfl rfl (RV.pickTB rfl rfl rfl) ?_
                    refine LW.pure rfl rfl (RV.move rfl) ?_
                    refine LW.noB rfl rfl rfl rfl (ne_beq (v := true) rfl rfl) ?_
                    refine LW.noB rfl rfl rfl rfl (ne_beq (v := true) rfl rfl) ?_
                    refine LW.noB rfl rfl rfl rfl (ne_beq (v := true) rfl rfl) ?_
                    refine LW.pure rfl rfl (RV.pickTB rfl rfl rfl) ?_
                    refine LW.pure rfl rfl (RV.move rfl) ?_
                    refine LW.noB rfl rfl rfl rfl (ne_beq (v := true) rfl rfl) ?_
                    refine LW.noB rfl rfl rfl rfl (ne_beq (v := true) rfl rfl) ?_
                    refine LW.noB rfl rfl rfl rfl (ne_beq (v := true) rfl rfl) ?_
                    refine LW.pure rfl rfl (RV.pickTB rfl rfl rfl) ?_
                    refine LW.pure rfl rfl (RV.move rfl) ?_
                    refine LW.noB rfl rfl rfl rfl (ne_beq (v := true) rfl rfl) ?_
                    refine LW.noB rfl rfl rfl rfl (ne_beq (v := true) rfl rfl) ?_
                    refine LW.noB rfl rfl rfl rfl (ne_beq (v := true) rfl rfl) ?_
                    refine LW.noB rfl rfl rfl rfl (ne_beq (v := true) rfl rfl) ?_
                    refine LW.pure rfl rfl (RV.pickTB rfl rfl rfl) ?_
                    replace H := H.pick (L' := [.own A32_0 c32_0 3 1 (List.map encN r1.1), .own A34_0 c34_0 3 1 (List.map encN r2.1), .blk b1 24 [.slice A_a0_worth a0.worth.length c_a0_worth]]) [2, 3, 5] (by decide) rfl
                    replace R0 := H.ext
                    refine LW.nil (jK87 _ _ ⟨_, ?_, ⟨true, F, rfl, H⟩⟩)
                    exact ⟨rfl, rfl, rfl, rfl, (look_slice rfl (by first | rfl | (simp; done) | omega | (simp; omega))), rfl, (look_slice rfl (by first | rfl | (simp; done) | omega | (simp; omega))), rfl, trivial⟩
                ·
                  replace F := ite_n hp18 F
                  have hq18 := dec_f hp18
                  refine CW.region ?_
                  refine LW.pure rfl rfl (RV.move rfl) ?_
                  refine LW.pure rfl rfl (RV.nei rfl rfl) ?_
                  refine LW.pure rfl rfl (RV.move rfl) ?_
                  refine LW.noB rfl rfl rfl rfl (ne_beq (v := true) (not_t hq18) rfl) ?_
                  refine LW.noB rfl rfl rfl rfl (ne_beq (v := true) (not_t hq18) rfl) ?_
                  refine LW.pure rfl rfl (RV.pickTB rfl (not_t hq18) rfl) ?_
                  refine LW.pure rfl rfl (RV.move rfl) ?_
                  refine LW.noB rfl rfl rfl rfl (ne_beq (v := true) rfl rfl) ?_
                  refine LW.noB rfl rfl rfl rfl (ne_beq (v := true) rfl rfl) ?_
                  refine LW.pure rfl rfl (RV.pickTB rfl rfl rfl) ?_
                  refine LW.pure rfl rfl (RV.move rfl) ?_
                  refine LW.noB rfl rfl rfl rfl (ne_beq (v := true) rfl rfl) ?_
                  refine LW.noB rfl rfl rfl rfl (ne_beq (v := true) rfl rfl) ?_
                  refine LW.pure rfl rfl (RV.pickTB rfl rfl rfl) ?_
                  refine LW.pure rfl rfl (RV.move rfl) ?_
                  refine LW.noB rfl rfl rfl rfl (ne_beq (v := true) rfl rfl) ?_
                  refine LW.noB rfl rfl rfl rfl (ne_beq (v := true) rfl rfl) ?_
                  refine LW.noB rfl rfl rfl rfl (ne_beq (v := true) rfl rfl) ?_
                  refine LW.pure rfl rfl (RV.pickTB rfl rfl rfl) ?_
                  refine LW.pure rfl rfl (RV.move rfl) ?_
                  refine LW.noB rfl rfl rfl rfl (ne_beq (v := true) rfl rfl) ?_
                  refine LW.noB rfl rfl rfl rfl (ne_beq (v := true) rfl rfl) ?_
                  refine LW.noB rfl rfl rfl rfl (ne_beq (v := true) rfl rfl) ?_
                  refine LW.pure rfl rfl (RV.pickTB rfl rfl rfl) ?_
                  refine LW.pure rfl rfl (RV.move rfl) ?_
                  refine LW.noB rfl rfl rfl rfl (ne_beq (v := true) rfl rfl) ?_
                  refine LW.noB rfl rfl rfl rfl (ne_beq (v := true) rfl rfl) ?_
                  refine LW.noB rfl rfl rfl rfl (ne_beq (v := true) rfl rfl) ?_
                  refine LW.pure rfl rfl (RV.pickTB rfl rfl rfl) ?_
                  refine LW.pure rfl rfl (RV.move rfl) ?_
                  refine LW.noB rfl rfl rfl rfl (ne_beq (v := true) rfl rfl) ?_
                  refine LW.noB rfl rfl rfl rfl (ne_beq (v := true) rfl rfl) ?_
                  refine LW.noB rfl rfl rfl rfl (ne_beq (v := true) rfl rfl) ?_
                  refine LW.noB rfl rfl rfl rfl (ne_beq (v := true) rfl rfl) ?_
                  refine LW.pure rfl rfl (RV.pickTB rfl rfl rfl) ?_
                  replace H := H.pick (L' := [.own A32_0 c32_0 3 1 (List.map encN r1.1), .own A34_0 c34_0 3 1 (List.map encN r2.1), .blk b1 24 [.slice A_a0_worth a0.worth.length c_a0_worth]]) [2, 3, 5] (by decide) rfl
                  replace R0 := H.ext
                  refine LW.nil (jK87 _ _ ⟨_, ?_, ⟨true, F, rfl, H⟩⟩)
                  exact ⟨rfl, rfl, rfl, rfl, (look_slice rfl (by first | rfl | (simp; done) | omega | (simp; omega))), rfl, (look_slice rfl (by first | rfl | (simp; done) | omega | (simp; omega))), rfl, trivial⟩
            ·
              replace F := ite_n hp4 F
              have hq4 := dec_f hp4
              refine CW.condT rfl (not_t hq4) ?_
              refine CW.seq fun K38 hK38 => ?_
              obtain ⟨r18, hr18, F⟩ := bnd_some F
              refine CW.region ?_
              refine LW.pure rfl rfl (RV.loadA [.slice A_a0_worth a0.worth.length c_a0_worth] Tk24 rfl (H.blk 3 rfl).cells rfl rfl) ?_
              refine LW.go rfl rfl (OW.call Tc25 rfl (cut_Validate_ok (a0 := a0) (h_a0_worth.ext R0) hr18) ?_)
              rintro _ w27 ⟨rfl, E20⟩
              refine ⟨_, rfl, ?_⟩
              replace H := H.grow E20
              replace R0 := H.ext
              refine LW.pure rfl rfl (RV.move rfl) ?_
              refine LW.pure rfl rfl (RV.eqi rfl rfl) ?_
              refine LW.pure rfl rfl (RV.assign rfl) ?_
              refine LW.nil (hK38 _ _ ?_)
              refine CW.ret ?_
              obtain rfl := Option.some.inj F
              refine ⟨_, (ResOK.one rfl), ?_⟩
              refine ⟨(by first | rfl | simp), R0⟩
        ·
          intro K39 hK39 jK89
          by_cases hp25 : r1.2.2 = r2.2.2
          ·
            replace F := ite_y hp25 F
            have hq25 := dec_t hp25
            refine CW.region ?_
            refine LW.pure rfl rfl (RV.move rfl) ?_
            refine LW.pure rfl rfl (RV.move rfl) ?_
            refine LW.pure rfl rfl (RV.nei rfl rfl) ?_
            refine LW.pure rfl rfl (RV.move rfl) ?_
            refine LW.pureYB rfl rfl rfl rfl (not_f hq25) (RV.move rfl) ?_
            refine LW.pureYB rfl rfl rfl rfl (not_f hq25) (RV.move rfl) ?_
            refine LW.pureYB rfl rfl rfl rfl (not_f hq25) (RV.nei rfl rfl) ?_
            refine LW.pure rfl rfl (RV.pickFB rfl (not_f hq25) rfl) ?_
            replace H := H.pick (L' := [.own A32_0 c32_0 3 1 (List.map encN r1.1), .own A34_0 c34_0 3 1 (List.map encN r2.1), .own A36_0 c36_0 94 4 (List.map encPass r12.1), .blk b1 24 [.slice A_a0_worth a0.worth.length c_a0_worth]]) [2, 1, 0, 4] (by decide) rfl
            replace R0 := H.ext
            refine LW.nil (jK89 _ _ ⟨_, ?_, ⟨(!(decide (r2.2.2 = r12.2))), F, rfl, H⟩⟩)
            exact ⟨rfl, rfl, rfl, rfl, rfl, (look_slice rfl (by first | rfl | (simp; done) | omega | (simp; omega))), rfl, (look_slice rfl (by first | rfl | (simp; done) | omega | (simp; omega))), rfl, (look_slice rfl (by first | rfl | (simp; done) | omega | (simp; omega))), rfl, trivial⟩
          ·
            replace F := ite_n hp25 F
            have hq25 := dec_f hp25
            refine CW.region ?_
            refine LW.pure rfl rfl (RV.move rfl) ?_
            refine LW.pure rfl rfl (RV.move rfl) ?_
            refine LW.pure rfl rfl (RV.nei rfl rfl) ?_
            refine LW.pure rfl rfl (RV.move rfl) ?_
            refine LW.noB rfl rfl rfl rfl (ne_beq (v := true) (not_t hq25) rfl) ?_
            refine LW.noB rfl rfl rfl rfl (ne_beq (v := true) (not_t hq25) rfl) ?_
            refine LW.noB rfl rfl rfl rfl (ne_beq (v := true) (not_t hq25) rfl) ?_
            refine LW.pure rfl rfl (RV.pickTB rfl (not_t hq25) rfl) ?_
            replace H := H.pick (L' := [.own A32_0 c32_0 3 1 (List.map encN r1.1), .own A34_0 c34_0 3 1 (List.map encN r2.1), .own A36_0 c36_0 94 4 (List.map encPass r12.1), .blk b1 24 [.slice A_a0_worth a0.worth.length c_a0_worth]]) [2, 1, 0, 4] (by decide) rfl
            replace R0 := H.ext
            refine LW.nil (jK89 _ _ ⟨_, ?_, ⟨true, F, rfl, H⟩⟩)
            exact ⟨rfl, rfl, rfl, rfl, rfl, (look_slice rfl (by first | rfl | (simp; done) | omega | (simp; omega))), rfl, (look_slice rfl (by first | rfl | (simp; done) | omega | (simp; omega))), rfl, (look_slice rfl (by first | rfl | (simp; done) | omega | (simp; omega))), rfl, trivial⟩
  ·
    intro K40 hK40 jK90
    by_cases hp26 : r20.2 = 0
    ·
      replace F := ite_y hp26 F
      have hq26 := dec_t hp26
      refine CW.region ?_
      refine LW.pure rfl rfl (RV.move rfl) ?_
      refine LW.pure rfl rfl (RV.nei rfl rfl) ?_
      refine LW.pure rfl rfl (RV.move rfl) ?_
      refine LW.pureYB rfl rfl rfl rfl (not_f hq26) (RV.move rfl) ?_
      refine LW.pureYB rfl rfl rfl rfl (not_f hq26) (RV.nei rfl rfl) ?_
      refine LW.pure rfl rfl (RV.pickFB rfl (not_f hq26) rfl) ?_
      replace H := H.pick (L' := [.blk b1 24 [.slice A_a0_worth a0.worth.length c_a0_worth]]) [3] (by decide) rfl
      replace R0 := H.ext
      refine LW.nil (jK90 _ _ ⟨_, ?_, ⟨(!(decide (r20.1 = 4))), F, rfl, H⟩⟩)
      exact ⟨rfl, rfl, rfl, rfl, rfl, trivial⟩
    ·
      replace F := ite_n hp26 F
      have hq26 := dec_f hp26
      refine CW.region ?_
      refine LW.pure rfl rfl (RV.move rfl) ?_
      refine LW.pure rfl rfl (RV.nei rfl rfl) ?_
      refine LW.pure rfl rfl (RV.move rfl) ?_
      refine LW.noB rfl rfl rfl rfl (ne_beq (v := true) (not_t hq26) rfl) ?_
      refine LW.noB rfl rfl rfl rfl (ne_beq (v := true) (not_t hq26) rfl) ?_
      refine LW.pure rfl rfl (RV.pickTB rfl (not_t hq26) rfl) ?_
      replace H := H.pick (L' := [.blk b1 24 [.slice A_a0_worth a0.worth.length c_a0_worth]]) [3] (by decide) rfl
      replace R0 := H.ext
      refine LW.nil (jK90 _ _ ⟨_, ?_, ⟨true, F, rfl, H⟩⟩)
      exact ⟨rfl, rfl, rfl, rfl, rfl, trivial⟩
end Go.D4

namespace Go.Tb
/-- A loop over 0 .. N - 1 with a state, that is left at the first i for which p does not hold. -/
theorem scan_loop {S R : Type} (N : Nat) (p : Nat → Bool) (g : Nat → S) (L : Nat → S → Int → Option R) (yes : Option R) (no : Nat → Option R)
    (step : ∀ n i : Nat, i < N → L (n + 1) (g i) (i : Int) = if p i = true then L n (g (i + 1)) ((i + 1 : Nat) : Int) else no i)
    (stop : ∀ n : Nat, L (n + 1) (g N) (N : Int) = yes) : ∀ (d n i : Nat), N = i + d → d < n → L n (g i) (i : Int) = match (List.range' i d).find? (fun j => !p j) with | none => yes | some j => no j
  | 0, n + 1, i, hd, hn => by
    have hi : i = N := by omega
    subst hi
    rw [stop n]; rfl
  | d + 1, n + 1, i, hd, hn => by
    rw [step n i (by omega), List.range'_succ, List.find?_cons]
    cases hp : p i
    · simp
    · simp only [if_true, Bool.not_true]
      exact scan_loop N p g L yes no step stop d n (i + 1) (by omega) (by omega)
theorem find_all {p : Nat → Bool} {i d : Nat} : (List.range' i d).find? (fun j => !p j) = none ↔ ∀ j, i ≤ j → j < i + d → p j = true := by
  rw [List.find?_eq_none]
  constructor
  · intro h j h1 h2
    have := h j (by rw [List.mem_range'_1]; omega)
    simpa using this
  · intro h x hx
    rw [List.mem_range'_1] at hx
    simp [h x hx.1 hx.2]
/-- A loop over 0 .. N - 1 with a state and no way out. -/
theorem for_loop {S R : Type} (N : Nat) (g : Nat → S) (L : Nat → S → Int → Option R) (yes : Option R)
    (step : ∀ n i : Nat, i < N → L (n + 1) (g i) (i : Int) = L n (g (i + 1)) ((i + 1 : Nat) : Int))
    (stop : ∀ n : Nat, L (n + 1) (g N) (N : Int) = yes) : ∀ (d n i : Nat), N = i + d → d < n → L n (g i) (i : Int) = yes
  | 0, n + 1, i, hd, hn => by
    have hi : i = N := by omega
    subst hi
    exact stop n
  | d + 1, n + 1, i, hd, hn => by
    rw [step n i (by omega)]
    exact for_loop N g L yes step stop d n (i + 1) (by omega) (by omega)
theorem for_loop0 {S R : Type} (N : Nat) (g : Nat → S) (L : Nat → S → Int → Option R) (yes : Option R)
    (step : ∀ n i : Nat, i < N → L (n + 1) (g i) (i : Int) = L n (g (i + 1)) ((i + 1 : Nat) : Int))
    (stop : ∀ n : Nat, L (n + 1) (g N) (N : Int) = yes) (hN : N ≤ 9223372036854775807) : L FU (g 0) 0 = yes :=
  for_loop N g L yes step stop N FU 0 (by omega) (by have := FU_pos; omega)
theorem scan_loop0 {S R : Type} (N : Nat) (p : Nat → Bool) (g : Nat → S) (L : Nat → S → Int → Option R) (yes no : Option R)
    (step : ∀ n i : Nat, i < N → L (n + 1) (g i) (i : Int) = if p i = true then L n (g (i + 1)) ((i + 1 : Nat) : Int) else no)
    (stop : ∀ n : Nat, L (n + 1) (g N) (N : Int) = yes) (hN : N ≤ 9223372036854775807) : L FU (g 0) 0 = if (∀ j, j < N → p j = true) then yes else no := by
  have h := scan_loop N p g L yes (fun _ => no) step stop N FU 0 (by omega) (by have := FU_pos; omega)
  refine Eq.trans h ?_
  cases hf : (List.range' 0 N).find? (fun j => !p j) with
  | none => rw [if_pos (fun j hj => find_all.1 hf j (by omega) (by omega))]
  | some j =>
    have h1 := List.find?_some hf
    have h2 := List.mem_of_find?_eq_some hf
    rw [List.mem_range'_1] at h2
    rw [if_neg]
    intro hall
    have := hall j (by omega)
    simp [this] at h1
/-- The same over the elements of a list. -/
theorem list_loop0 {α R : Type} (l : List α) (p : α → Bool) (L : Nat → Int → Option R) (yes no : Option R)
    (step : ∀ (n i : Nat) (x : α), l[i]? = some x → L (n + 1) (i : Int) = if p x = true then L n ((i + 1 : Nat) : Int) else no)
    (stop : ∀ n : Nat, L (n + 1) (l.length : Int) = yes) (hl : l.length ≤ 9223372036854775807) : L FU 0 = if l.all p = true then yes else no := by
  have h := scan_loop0 l.length (fun i => (l[i]?.map p).getD true) (fun _ => ()) (fun n _ i => L n i) yes no (fun n i hi => by
    have hx : l[i]? = some l[i] := by simp [hi]
    rw [step n i _ hx]; simp [hx]) stop hl
  refine Eq.trans h ?_
  by_cases ha : l.all p = true
  · rw [if_pos ha, if_pos]
    intro j hj
    have := List.all_eq_true.1 ha l[j] (List.getElem_mem hj)
    simp [hj, this]
  · rw [if_neg ha, if_neg]
    intro hc
    refine ha (List.all_eq_true.2 fun x hx => ?_)
    obtain ⟨j, hj⟩ := List.getElem?_of_mem hx
    have := hc j (lt_of_at hj)
    simpa [hj] using this
end Go.Tb

set_option linter.unusedVariables false
set_option linter.unusedSimpArgs false
namespace Go.D4
open Go.Tb
theorem scan_from {R : Type} (N s : Nat) (p : Nat → Bool) (L : Nat → Int → Option R) (yes no : Option R)
    (step : ∀ n i : Nat, s ≤ i → i < N → L (n + 1) (i : Int) = if p i = true then L n ((i + 1 : Nat) : Int) else no)
    (stop : ∀ n i : Nat, N ≤ i → L (n + 1) (i : Int) = yes) : ∀ (d n i : Nat), s ≤ i → N ≤ i + d → d < n → L n (i : Int) = if (∀ j, j < N → i ≤ j → p j = true) then yes else no
  | 0, n + 1, i, hs, hd, hn => by
    rw [stop n i (by omega), if_pos (fun j h1 h2 => by omega)]
  | d + 1, n + 1, i, hs, hd, hn => by
    by_cases hi : N ≤ i
    · rw [stop n i hi, if_pos (fun j h1 h2 => by omega)]
    · rw [step n i hs (by omega)]
      cases hp : p i
      · rw [if_neg (by simp), if_neg (fun h => by have := h i (by omega) (Nat.le_refl _); simp [hp] at this)]
      · rw [if_pos rfl, scan_from N s p L yes no step stop d n (i + 1) (by omega) (by omega) (by omega)]
        by_cases hall : ∀ j, j < N → i + 1 ≤ j → p j = true
        · rw [if_pos hall, if_pos (fun j h1 h2 => by
            by_cases hj : j = i
            · subst hj; exact hp
            · exact hall j h1 (by omega))]
        · rw [if_neg hall, if_neg (fun h => hall fun j h1 h2 => h j h1 (by omega))]
theorem scan1 {R : Type} (N : Nat) (p : Nat → Bool) (L : Nat → Int → Option R) (yes no : Option R)
    (step : ∀ n i : Nat, 1 ≤ i → i < N → L (n + 1) (i : Int) = if p i = true then L n ((i + 1 : Nat) : Int) else no)
    (stop : ∀ n i : Nat, N ≤ i → L (n + 1) (i : Int) = yes) (hN : N ≤ 9223372036854775807) : L FU 1 = if (∀ j, j < N → 1 ≤ j → p j = true) then yes else no :=
  scan_from N 1 p L yes no step stop N FU 1 (by omega) (by omega) (by have := FU_pos; omega)
theorem for0 {S R : Type} (N : Nat) (g : Nat → S) (L : Nat → S → Int → Option R) (yes : Option R) {s0 : S} (h0 : g 0 = s0)
    (step : ∀ n i : Nat, i < N → L (n + 1) (g i) (i : Int) = L n (g (i + 1)) ((i + 1 : Nat) : Int))
    (stop : ∀ n : Nat, L (n + 1) (g N) (N : Int) = yes) (hN : N ≤ 9223372036854775807) : L FU s0 0 = yes := by
  rw [← h0]; exact for_loop0 N g L yes step stop hN
/-- A library loop: is there an element for which f holds? -/
theorem ContainsFunc_eq (l : List Int) (f : Int → Option Bool) (q : Int → Bool) (hf : ∀ x, f x = some (q x)) (hl : l.length ≤ 1000000) : slices_ContainsFunc_int l f = some (l.any q) := by
  unfold slices_ContainsFunc_int slices_IndexFunc_int
  have h := scan_loop l.length (fun i => (l[i]?.map fun x => !q x).getD true) (fun _ => ()) (fun n _ i => slices_IndexFunc_int_L1 l f n i) (some (-1)) (fun j => some (j : Int)) (fun n i hi => ?_) (fun n => ?_) l.length FU 0 (by omega) (by have := FU_pos; omega)
  · rw [bnd_eq (x := match (List.range' 0 l.length).find? (fun j => !((l[j]?.map fun x => !q x).getD true)) with | none => -1 | some j => (j : Int)) (by
      refine Eq.trans h ?_
      cases (List.range' 0 l.length).find? (fun j => !((l[j]?.map fun x => !q x).getD true)) <;> rfl)]
    congr 1
    cases hf : (List.range' 0 l.length).find? (fun j => !((l[j]?.map fun x => !q x).getD true)) with
    | none =>
      have := find_all.1 hf
      have ha : l.any q = false := List.any_eq_false.2 fun x hx => by
        obtain ⟨j, hj⟩ := List.getElem?_of_mem hx
        have := this j (by omega) (by have := lt_of_at hj; omega)
        simpa [hj] using this
      simp [ha]
    | some j =>
      have h1 := List.find?_some hf
      have h2 := List.mem_of_find?_eq_some hf
      rw [List.mem_range'_1] at h2
      have hx : l[j]? = some l[j] := List.getElem?_eq_getElem (by omega)
      rw [hx] at h1
      have ha : l.any q = true := by
        rw [List.any_eq_true]
        exact ⟨l[j], List.getElem_mem _, by simpa using h1⟩
      simp [ha]
  · show slices_IndexFunc_int_B1 l f (slices_IndexFunc_int_L1 l f n) _ = _
    have hx : l[i]? = some l[i] := by simp [hi]
    unfold slices_IndexFunc_int_B1
    rw [if_pos (by omega), ix_nat hx, bnd_eq (hf _), gd_pos (by omega), hx]
    cases h : q l[i] <;> simp [h]
  · show slices_IndexFunc_int_B1 l f (slices_IndexFunc_int_L1 l f n) _ = _
    unfold slices_IndexFunc_int_B1
    rw [if_neg (by omega)]; rfl
def within (n lo hi : Int) : Bool := decide (lo ≤ n) && decide (n ≤ hi)
theorem within_iff {n lo hi : Int} : within n lo hi = true ↔ lo ≤ n ∧ n ≤ hi := by unfold within; simp
theorem from_eq (n lo hi : Int) : cut_from n lo hi = some (within n lo hi) := by
  unfold cut_from within
  by_cases h : lo ≤ n <;> simp [h]
def dep (b : Bog) : Int := ((b.worth[0]?.getD []).length : Int)
theorem ix0 {α β : Type} {l : List α} {k : α → Option β} {x : α} (h : l[0]? = some x) : ix l 0 k = k x := ix_nat (i := 0) h
theorem depth_eq {b : Bog} (h : 1 ≤ b.worth.length) : cut_depth b = some (dep b) := by
  have hx : b.worth[0]? = some b.worth[0] := by simp
  unfold cut_depth dep
  rw [ix0 hx, hx]; rfl
def okW (w : Int) : Bool := within w (-50) 50
def okCol (d : Int) (c : List Int) : Bool := decide ((c.length : Int) = d) && c.all okW
def okB (b : Bog) : Bool := within b.worth.length 1 6 && within (dep b) 1 4 && b.worth.all (okCol (dep b))
def validate (b : Bog) : Int := if okB b = true then 0 else 1
def Short (b : Bog) : Prop := b.worth.length ≤ 50 ∧ ∀ c ∈ b.worth, c.length ≤ 50
theorem Validate_1_eq (w : Int) : cut_Validate_1 w = some (!okW w) := by
  unfold cut_Validate_1; rw [bnd_eq (from_eq _ _ _)]; rfl
theorem any_not {l : List Int} : (l.any fun x => !okW x) = !(l.all okW) := by
  induction l with
  | nil => rfl
  | cons x r ih => simp [ih]
theorem Validate_eq {b : Bog} (hs : Short b) : cut_Validate b = some (validate b) := by
  unfold cut_Validate validate okB
  rw [bnd_eq (from_eq _ _ _)]
  cases h1 : within b.worth.length 1 6
  · rw [if_neg (by simp)]; unfold cut_Validate_k3; simp
  have h1' := within_iff.1 h1
  rw [if_pos rfl, bnd_eq (depth_eq (by omega)), bnd_eq (from_eq _ _ _)]
  cases h2 : within (dep b) 1 4
  · unfold cut_Validate_k3; simp
  unfold cut_Validate_k3
  rw [if_neg (by simp), list_loop0 b.worth (okCol (dep b)) (cut_Validate_L1 b) (some 0) (some 1) (fun n i x hx => ?_) (fun n => ?_) (by omega)]
  · cases b.worth.all (okCol (dep b)) <;> simp
  · have := lt_of_at hx
    have hxl := hs.2 x (List.mem_of_getElem? hx)
    show cut_Validate_B1 b (cut_Validate_L1 b n) _ = _
    unfold cut_Validate_B1 okCol
    rw [if_pos (by omega), ix_nat hx, bnd_eq (depth_eq (by omega))]
    unfold cut_Validate_k2
    by_cases hd : (x.length : Int) = dep b
    · rw [if_pos hd, bnd_eq (ContainsFunc_eq x _ _ Validate_1_eq (by omega)), any_not, gd_pos (by omega)]
      cases x.all okW <;> simp [hd]
    · rw [if_neg hd, gd_pos (by omega)]; simp [hd]
  · show cut_Validate_B1 b (cut_Validate_L1 b n) _ = _
    unfold cut_Validate_B1
    rw [if_neg (by omega)]; rfl
end Go.D4

set_option linter.unusedVariables false
set_option linter.unusedSimpArgs false
namespace Go.D4
open Go.Tb
def gi (l : List Int) (i : Nat) : Int := l.getD i 0
theorem gi_of {l : List Int} {i : Nat} {x : Int} (h : l[i]? = some x) : gi l i = x := by simp [gi, List.getD, h]
def rightB (h : List Int) : Bool := decide (∀ j, j < h.length → 1 ≤ j → within (gi h j - gi h (j - 1)) (-1) 1 = true)
def okL (b : Bog) (h : List Int) : Bool := decide ((h.length : Int) = b.worth.length) && h.all (fun n => within n 0 (dep b))
def listE (b : Bog) (h : List Int) : Int := if validate b = 0 then (if okL b h = true then 0 else 1) else validate b
def hollowE (b : Bog) (h : List Int) : Int := if listE b h = 0 then (if rightB h = true then 0 else 6) else listE b h
structure Ok (b : Bog) : Prop where
  n1 : 1 ≤ b.worth.length
  n6 : b.worth.length ≤ 6
  d1 : 1 ≤ dep b
  d4 : dep b ≤ 4
  col : ∀ c ∈ b.worth, (c.length : Int) = dep b ∧ ∀ w ∈ c, -50 ≤ w ∧ w ≤ 50
theorem okB_iff {b : Bog} : okB b = true ↔ Ok b := by
  unfold okB
  simp only [Bool.and_eq_true, within_iff, List.all_eq_true, okCol, decide_eq_true_eq, okW]
  constructor
  · rintro ⟨⟨h1, h2⟩, h3⟩
    exact ⟨by omega, by omega, h2.1, h2.2, h3⟩
  · intro h
    exact ⟨⟨⟨by have := h.n1; omega, by have := h.n6; omega⟩, h.d1, h.d4⟩, h.col⟩
theorem val0 {b : Bog} : validate b = 0 ↔ Ok b := by
  rw [← okB_iff]; unfold validate; split <;> simp_all
theorem okL_iff {b : Bog} {h : List Int} : okL b h = true ↔ h.length = b.worth.length ∧ ∀ x ∈ h, 0 ≤ x ∧ x ≤ dep b := by
  unfold okL
  simp only [Bool.and_eq_true, decide_eq_true_eq, List.all_eq_true, within_iff]
  constructor
  · rintro ⟨h1, h2⟩; exact ⟨by omega, h2⟩
  · rintro ⟨h1, h2⟩; exact ⟨by omega, h2⟩
theorem list0 {b : Bog} {h : List Int} : listE b h = 0 ↔ Ok b ∧ okL b h = true := by
  unfold listE
  constructor
  · intro h0
    split at h0
    · rename_i hv
      split at h0
      · rename_i ho; exact ⟨val0.1 hv, ho⟩
      · cases h0
    · rename_i hv; exact absurd h0 hv
  · rintro ⟨h1, h2⟩
    rw [if_pos (val0.2 h1), if_pos h2]
theorem hollow0 {b : Bog} {h : List Int} : hollowE b h = 0 ↔ Ok b ∧ okL b h = true ∧ rightB h = true := by
  unfold hollowE
  constructor
  · intro h0
    split at h0
    · rename_i hv
      split at h0
      · rename_i ho; exact ⟨(list0.1 hv).1, (list0.1 hv).2, ho⟩
      · cases h0
    · rename_i hv; exact absurd h0 hv
  · rintro ⟨h1, h2, h3⟩
    rw [if_pos (list0.2 ⟨h1, h2⟩), if_pos h3]
theorem isList_eq {b : Bog} {h : List Int} (hs : Short b) (hl : h.length ≤ 1000000) : cut_isList b h = some (listE b h) := by
  unfold cut_isList listE
  rw [bnd_eq (Validate_eq hs)]
  by_cases hv : validate b = 0
  · have hb := val0.1 hv
    rw [if_pos hv, if_pos hv]
    have hf : ∀ x, cut_isList_1 b x = some (!within x 0 (dep b)) := fun x => by
      unfold cut_isList_1
      rw [bnd_eq (depth_eq hb.n1), bnd_eq (from_eq _ _ _)]
    have hn : (h.any fun x => !within x 0 (dep b)) = !(h.all fun x => within x 0 (dep b)) := by
      induction h with
      | nil => rfl
      | cons x r ih => simp only [List.any_cons, List.all_cons, ih (by simp at hl; omega), Bool.not_and]
    by_cases hln : (h.length : Int) = b.worth.length
    · rw [if_pos hln, bnd_eq (ContainsFunc_eq h _ _ hf hl), hn]
      unfold cut_isList_k1 okL
      cases h.all fun x => within x 0 (dep b) <;> simp [hln]
    · rw [if_neg hln]
      unfold cut_isList_k1 okL
      simp [hln]
  · rw [if_neg hv, if_neg hv]
theorem right_eq {h : List Int} (hl : h.length ≤ 1000000) (hb : ∀ x ∈ h, -1000 ≤ x ∧ x ≤ 1000) : cut_right h = some (rightB h) := by
  unfold cut_right rightB
  rw [scan1 h.length (fun j => within (gi h j - gi h (j - 1)) (-1) 1) (cut_right_L1 h) (some true) (some false) (fun n i h1 hi => ?_) (fun n i hi => ?_) (by omega)]
  · by_cases hp : ∀ j, j < h.length → 1 ≤ j → within (gi h j - gi h (j - 1)) (-1) 1 = true
    · rw [if_pos hp, decide_eq_true hp]
    · rw [if_neg hp, decide_eq_false hp]
  · have hx : h[i]? = some h[i] := by simp [hi]
    have hy : h[i - 1]? = some h[i - 1] := List.getElem?_eq_getElem (by omega)
    have bx := hb h[i] (List.getElem_mem _)
    have by_ := hb h[i - 1] (List.getElem_mem _)
    show cut_right_B1 h (cut_right_L1 h n) _ = _
    unfold cut_right_B1
    rw [if_pos (by omega), ix_nat hx, gd_pos (by omega), show ((i : Int) - 1) = ((i - 1 : Nat) : Int) by omega, ix_nat hy, gd_pos (by omega), bnd_eq (from_eq _ _ _), gi_of hx, gi_of hy, gd_pos (by omega)]
    rfl
  · show cut_right_B1 h (cut_right_L1 h n) _ = _
    unfold cut_right_B1
    rw [if_neg (by omega)]; rfl
theorem CheckHollow_eq {b : Bog} {h : List Int} (hs : Short b) (hl : h.length ≤ 1000000) : cut_CheckHollow b h = some (hollowE b h) := by
  unfold cut_CheckHollow hollowE
  rw [bnd_eq (isList_eq hs hl)]
  by_cases h0 : listE b h = 0
  · have ⟨hb, ho⟩ := list0.1 h0
    have hx := (okL_iff.1 ho).2
    rw [if_pos h0, if_pos h0, bnd_eq (right_eq hl (fun x hm => by have := hx x hm; have := hb.d4; omega))]
    cases rightB h <;> rfl
  · rw [if_neg h0, if_neg h0]
def isum : List Int → Int
  | [] => 0
  | x :: r => x + isum r
theorem isum_append (l m : List Int) : isum (l ++ m) = isum l + isum m := by
  induction l with
  | nil => simp [isum]
  | cons x r ih => simp [isum, ih]; omega
theorem isum_take {l : List Int} {j : Nat} {x : Int} (h : l[j]? = some x) : isum (l.take (j + 1)) = isum (l.take j) + x := by
  have hj := lt_of_at h
  rw [List.take_succ_eq_append_getElem hj, isum_append]
  have : l[j] = x := by rw [List.getElem?_eq_getElem hj] at h; exact Option.some.inj h
  simp [isum, this]
theorem isum_bnd {l : List Int} (h : ∀ x ∈ l, -50 ≤ x ∧ x ≤ 50) : -50 * (l.length : Int) ≤ isum l ∧ isum l ≤ 50 * (l.length : Int) := by
  induction l with
  | nil => simp [isum]
  | cons x r ih =>
    have := ih (fun y hy => h y (List.mem_cons_of_mem _ hy))
    have := h x (List.mem_cons_self ..)
    simp only [isum, List.length_cons]
    omega
def colW (b : Bog) (c : Nat) (n : Int) : Int := isum ((b.worth.getD c []).take n.toNat)
def wsum (b : Bog) (h : List Int) : Nat → Int
  | 0 => 0
  | c + 1 => wsum b h c + colW b c (gi h c)
theorem col_of {b : Bog} {c : Nat} {x : List Int} (h : b.worth[c]? = some x) (n : Int) : colW b c n = isum (x.take n.toNat) := by simp [colW, List.getD, h]
theorem colW_bnd {b : Bog} (hb : Ok b) (c : Nat) (n : Int) : -200 ≤ colW b c n ∧ colW b c n ≤ 200 := by
  unfold colW
  have : ∀ x ∈ (b.worth.getD c []).take n.toNat, -50 ≤ x ∧ x ≤ 50 := fun x hx => by
    have hx := List.mem_of_mem_take hx
    by_cases hc : c < b.worth.length
    · have : b.worth.getD c [] = b.worth[c] := by simp [List.getD, hc]
      rw [this] at hx
      exact (hb.col _ (List.getElem_mem hc)).2 x hx
    · have : b.worth.getD c [] = [] := by simp [List.getD]; rw [List.getElem?_eq_none (by omega)]; rfl
      rw [this] at hx; cases hx
  have h1 := isum_bnd this
  have h2 : ((b.worth.getD c []).take n.toNat).length ≤ 4 := by
    rw [List.length_take]
    by_cases hc : c < b.worth.length
    · have e : b.worth.getD c [] = b.worth[c] := by simp [List.getD, hc]
      have := (hb.col _ (List.getElem_mem hc)).1
      have := hb.d4
      rw [e]; omega
    · have : b.worth.getD c [] = [] := by simp [List.getD]; rw [List.getElem?_eq_none (by omega)]; rfl
      rw [this]; simp
  omega
theorem wsum_bnd {b : Bog} (hb : Ok b) (h : List Int) : ∀ c : Nat, -200 * (c : Int) ≤ wsum b h c ∧ wsum b h c ≤ 200 * (c : Int)
  | 0 => by simp [wsum]
  | c + 1 => by
    have h1 := wsum_bnd hb h c
    have h2 := colW_bnd hb c (gi h c)
    simp only [wsum]
    omega
theorem worth_eq {b : Bog} {h : List Int} (hb : Ok b) (ho : okL b h = true) : cut_worth b h = some (wsum b h h.length) := by
  have ⟨hl, hx⟩ := okL_iff.1 ho
  have h6 := hb.n6
  unfold cut_worth
  refine Eq.trans (for_loop0 h.length (wsum b h) (fun n s i => cut_worth_L2 b h n s i) (some (wsum b h h.length)) (fun n i hi => ?_) (fun n => ?_) (by omega)) rfl
  · have hv : h[i]? = some h[i] := by simp [hi]
    have hc : b.worth[i]? = some b.worth[i] := List.getElem?_eq_getElem (by omega)
    have hcol := hb.col b.worth[i] (List.getElem_mem _)
    have hxi := hx h[i] (List.getElem_mem _)
    have hd := hb.d4
    show cut_worth_B2 b h (cut_worth_L2 b h n) _ _ = _
    unfold cut_worth_B2
    rw [if_pos (by omega), ix_nat hv, ix_nat hc, gd_pos (by omega)]
    have hlen : (List.take (Int.toNat h[i]) b.worth[i]).length = (h[i]).toNat := by rw [List.length_take]; omega
    have hws := wsum_bnd hb h i
    refine Eq.trans (for0 (List.take (Int.toNat h[i]) b.worth[i]).length (fun j => wsum b h i + isum ((List.take (Int.toNat h[i]) b.worth[i]).take j)) (fun m s j => cut_worth_L1 i (cut_worth_L2 b h n) h[i] b.worth[i] m s j) (cut_worth_L2 b h n (wsum b h (i + 1)) ((i + 1 : Nat) : Int)) (by simp [isum]) (fun m j hj => ?_) (fun m => ?_) (by omega)) rfl
    · have hw : (List.take (Int.toNat h[i]) b.worth[i])[j]? = some (List.take (Int.toNat h[i]) b.worth[i])[j] := by simp only [List.getElem?_eq_getElem hj]
      have hs := isum_bnd (l := (List.take (Int.toNat h[i]) b.worth[i]).take j) (fun x hm => hcol.2 x (List.mem_of_mem_take (List.mem_of_mem_take hm)))
      have hwb := hcol.2 _ (List.mem_of_mem_take (List.getElem_mem hj))
      have hjl : (List.take j (List.take (Int.toNat h[i]) b.worth[i])).length ≤ 4 := by rw [List.length_take]; omega
      show cut_worth_B1 i (cut_worth_L2 b h n) h[i] b.worth[i] (cut_worth_L1 i (cut_worth_L2 b h n) h[i] b.worth[i] m) _ _ = _
      unfold cut_worth_B1
      rw [if_pos (by omega), ix_nat hw, gd_pos (by omega), gd_pos (by omega), isum_take hw, Int.add_assoc]
      rfl
    · show cut_worth_B1 i (cut_worth_L2 b h n) h[i] b.worth[i] (cut_worth_L1 i (cut_worth_L2 b h n) h[i] b.worth[i] m) _ _ = _
      unfold cut_worth_B1
      rw [if_neg (by omega)]
      unfold cut_worth_k2
      rw [gd_pos (by omega), List.take_length]
      show cut_worth_L2 b h n _ _ = cut_worth_L2 b h n (wsum b h i + colW b i (gi h i)) _
      rw [gi_of hv, col_of hc]
      rfl
  · show cut_worth_B2 b h (cut_worth_L2 b h n) _ _ = _
    unfold cut_worth_B2
    rw [if_neg (by omega)]; rfl
def worthR (b : Bog) (h : List Int) : Int × Int := if hollowE b h = 0 then (wsum b h h.length, 0) else (0, hollowE b h)
theorem Worth_eq {b : Bog} {h : List Int} (hs : Short b) (hl : h.length ≤ 1000000) : cut_Worth b h = some (worthR b h) := by
  unfold cut_Worth worthR
  rw [bnd_eq (CheckHollow_eq hs hl)]
  by_cases h0 : hollowE b h = 0
  · have ⟨hb, ho, _⟩ := hollow0.1 h0
    rw [if_pos h0, if_pos h0, bnd_eq (worth_eq hb ho)]
  · rw [if_neg h0, if_neg h0]
def longB (b : Bog) (ls : List (List Int)) : Bool := !(ls.all fun l => !decide ((100 : Int) < l.length)) || (!(b.worth.all fun l => !decide ((50 : Int) < l.length)) || decide ((50 : Int) < b.worth.length))
theorem Long_eq {b : Bog} {ls : List (List Int)} (h1 : ls.length ≤ 9223372036854775807) (h2 : b.worth.length ≤ 9223372036854775807) : law04_Long b ls = some (longB b ls) := by
  unfold law04_Long longB
  rw [list_loop0 ls (fun l => !decide ((100 : Int) < l.length)) (law04_Long_L2 b ls) (law04_Long_k2 b) (some true) (fun n i x hx => ?_) (fun n => ?_) h1]
  · cases ls.all fun l => !decide ((100 : Int) < l.length)
    · simp
    · simp only [if_true, Bool.not_true, Bool.false_or]
      unfold law04_Long_k2
      rw [list_loop0 b.worth (fun l => !decide ((50 : Int) < l.length)) (law04_Long_L1 b) (law04_Long_k1 b) (some true) (fun n i x hx => ?_) (fun n => ?_) h2]
      · cases b.worth.all fun l => !decide ((50 : Int) < l.length)
        · simp
        · simp [law04_Long_k1]
      · have := lt_of_at hx
        show law04_Long_B1 b (law04_Long_L1 b n) _ = _
        unfold law04_Long_B1
        rw [if_pos (by omega), ix_nat hx, gd_pos (by omega)]
        by_cases h : (50 : Int) < x.length <;> simp [h]
      · show law04_Long_B1 b (law04_Long_L1 b n) _ = _
        unfold law04_Long_B1
        rw [if_neg (by omega)]
  · have := lt_of_at hx
    show law04_Long_B2 b ls (law04_Long_L2 b ls n) _ = _
    unfold law04_Long_B2
    rw [if_pos (by omega), ix_nat hx, gd_pos (by omega)]
    by_cases h : (100 : Int) < x.length <;> simp [h]
  · show law04_Long_B2 b ls (law04_Long_L2 b ls n) _ = _
    unfold law04_Long_B2
    rw [if_neg (by omega)]
theorem long_short {b : Bog} {ls : List (List Int)} (h : longB b ls = false) : Short b ∧ ∀ l ∈ ls, l.length ≤ 100 := by
  unfold longB at h
  simp only [Bool.or_eq_false_iff, Bool.not_eq_false', List.all_eq_true, Bool.not_eq_true', decide_eq_false_iff_not] at h
  obtain ⟨h1, h2, h3⟩ := h
  exact ⟨⟨by omega, fun c hc => by have := h2 c hc; omega⟩, fun l hl => by have := h1 l hl; omega⟩
end Go.D4

set_option linter.unusedVariables false
set_option linter.unusedSimpArgs false
namespace Go.D4
open Go.Tb
theorem Clone_eq {l : List Int} (h : l.length ≤ 1000000) : slices_Clone_int l = some l := by
  unfold slices_Clone_int
  rw [gd_pos (by simpa using h)]; rfl
def bump (h : List Int) (c : Nat) : List Int := h.set c (gi h c + 1)
def openB (b : Bog) (h : List Int) (c : Nat) : Bool := decide (gi h c + 1 ≤ dep b) && rightB (bump h c)
theorem gi_mem {h : List Int} {c : Nat} (hc : c < h.length) : gi h c ∈ h := by
  have : h[c]? = some h[c] := by simp [hc]
  rw [gi_of this]; exact List.getElem_mem hc
theorem gi_at {h : List Int} {c : Nat} (hc : c < h.length) : h[c]? = some (gi h c) := by
  have : h[c]? = some h[c] := by simp [hc]
  rw [gi_of this]; exact this
theorem bump_mem {b : Bog} {h : List Int} (hb : Ok b) (ho : okL b h = true) (c : Nat) : ∀ x ∈ bump h c, -1000 ≤ x ∧ x ≤ 1000 := fun x hx => by
  have hx2 := (okL_iff.1 ho).2
  have hd := hb.d4
  unfold bump at hx
  rcases List.mem_or_eq_of_mem_set hx with h1 | h1
  · have := hx2 x h1; omega
  · by_cases hc : c < h.length
    · have := hx2 _ (gi_mem hc); omega
    · have : gi h c = 0 := by simp [gi, List.getD]; rw [List.getElem?_eq_none (by omega)]; rfl
      omega
theorem open_eq {b : Bog} {h : List Int} (hb : Ok b) (ho : okL b h = true) {c : Nat} (hc : c < h.length) : cut_open b h (c : Int) = some (openB b h c) := by
  have ⟨hl, hx⟩ := okL_iff.1 ho
  have h6 := hb.n6
  have hd := hb.d4
  have hg := hx _ (gi_mem hc)
  unfold cut_open openB
  rw [bnd_eq (Clone_eq (by omega)), ix_nat (gi_at hc), gd_pos (by omega), ix_nat (gi_at hc)]
  have hset : (h.set (Int.toNat (c : Int)) (gi h c + 1)) = bump h c := rfl
  rw [hset, ix_nat (x := gi h c + 1) (by unfold bump; rw [List.getElem?_set_self hc]), bnd_eq (depth_eq hb.n1)]
  by_cases h1 : gi h c + 1 ≤ dep b
  · rw [if_pos h1, bnd_eq (right_eq (by simp [bump]; omega) (bump_mem hb ho c))]; simp [h1]
  · rw [if_neg h1]; simp [h1]
theorem bump_hollow {b : Bog} {h : List Int} (hb : Ok b) (ho : okL b h = true) {c : Nat} (hc : c < h.length) (hop : openB b h c = true) : hollowE b (bump h c) = 0 := by
  unfold openB at hop
  simp only [Bool.and_eq_true, decide_eq_true_eq] at hop
  refine hollow0.2 ⟨hb, okL_iff.2 ⟨by simp [bump, (okL_iff.1 ho).1], fun x hx => ?_⟩, hop.2⟩
  unfold bump at hx
  rcases List.mem_or_eq_of_mem_set hx with h1 | h1
  · exact (okL_iff.1 ho).2 x h1
  · have := (okL_iff.1 ho).2 _ (gi_mem hc)
    omega
end Go.D4

set_option linter.unusedVariables false
set_option linter.unusedSimpArgs false
namespace Go.D4
open Go.Tb
def inCols (b : Bog) (c : Int) : Bool := within c 0 ((b.worth.length : Int) - 1)
/-- The hollow after the first i columns of an order (a column that is not open changes nothing). -/
def ordN (b : Bog) (o : List Int) : Nat → List Int
  | 0 => List.replicate b.worth.length 0
  | i + 1 => if openB b (ordN b o i) (gi o i).toNat = true then bump (ordN b o i) (gi o i).toNat else ordN b o i
theorem okL_zero {b : Bog} (hb : Ok b) : okL b (List.replicate b.worth.length 0) = true :=
  okL_iff.2 ⟨by simp, fun x hx => by have := List.eq_of_mem_replicate hx; have := hb.d1; omega⟩
theorem okL_bump {b : Bog} {h : List Int} (hb : Ok b) (ho : okL b h = true) {c : Nat} (hop : openB b h c = true) : okL b (bump h c) = true := by
  by_cases hc : c < h.length
  · exact (hollow0.1 (bump_hollow hb ho hc hop)).2.1
  · have : bump h c = h := by unfold bump; exact List.set_eq_of_length_le (by omega)
    rw [this]; exact ho
theorem ordN_ok {b : Bog} (hb : Ok b) (o : List Int) : ∀ i, okL b (ordN b o i) = true
  | 0 => okL_zero hb
  | i + 1 => by
    unfold ordN
    split
    · rename_i h; exact okL_bump hb (ordN_ok hb o i) h
    · exact ordN_ok hb o i
def ordP (b : Bog) (o : List Int) (i : Nat) : Bool := openB b (ordN b o i) (gi o i).toNat
def orderR (b : Bog) (o : List Int) : List Int × Int × Int :=
  match (List.range' 0 o.length).find? (fun j => !ordP b o j) with
  | none => (ordN b o o.length, (o.length : Int), 0)
  | some j => ([], (j : Int), 6)
def checkR (b : Bog) (o : List Int) : List Int × Int × Int :=
  if validate b = 0 then (if (24 : Int) < o.length then ([], 0, 3) else if o.all (inCols b) = true then orderR b o else ([], 0, 4)) else ([], 0, validate b)
theorem col_in {b : Bog} {o : List Int} (hall : o.all (inCols b) = true) {i : Nat} {x : Int} (hx : o[i]? = some x) : 0 ≤ x ∧ x.toNat < b.worth.length := by
  have := within_iff.1 (List.all_eq_true.1 hall x (List.mem_of_getElem? hx))
  omega
theorem scanR {S R : Type} (N : Nat) (p : Nat → Bool) (g : Nat → S) (L : Nat → S → Int → Option R) (yes : R) (no : Nat → R) {s0 : S} (h0 : g 0 = s0)
    (step : ∀ n i : Nat, i < N → L (n + 1) (g i) (i : Int) = if p i = true then L n (g (i + 1)) ((i + 1 : Nat) : Int) else some (no i))
    (stop : ∀ n : Nat, L (n + 1) (g N) (N : Int) = some yes) (hN : N ≤ 9223372036854775807) : L FU s0 0 = some (match (List.range' 0 N).find? (fun j => !p j) with | none => yes | some j => no j) := by
  rw [← h0]
  refine Eq.trans (scan_loop N p g L (some yes) (fun j => some (no j)) step stop N FU 0 (by omega) (by have := FU_pos; omega)) ?_
  cases (List.range' 0 N).find? (fun j => !p j) <;> rfl
theorem CheckOrder_eq {b : Bog} {o : List Int} (hs : Short b) (hl : o.length ≤ 1000000) : cut_CheckOrder b o = some (checkR b o) := by
  unfold cut_CheckOrder checkR
  rw [bnd_eq (Validate_eq hs)]
  by_cases hv : validate b = 0
  · have hb := val0.1 hv
    have h6 := hb.n6
    rw [if_pos hv, if_pos hv]
    by_cases h24 : (24 : Int) < o.length
    · rw [if_pos h24, if_pos h24]
    · rw [if_neg h24, if_neg h24]
      have hf : ∀ x, cut_CheckOrder_1 b x = some (!inCols b x) := fun x => by
        unfold cut_CheckOrder_1
        rw [gd_pos (by omega), bnd_eq (from_eq _ _ _)]; rfl
      have hn : ∀ l : List Int, (l.any fun x => !inCols b x) = !(l.all (inCols b)) := fun l => by
        induction l with
        | nil => rfl
        | cons x r ih => simp only [List.any_cons, List.all_cons, ih, Bool.not_and]
      rw [bnd_eq (ContainsFunc_eq o _ _ hf (by omega)), hn]
      cases hall : o.all (inCols b)
      · rfl
      · simp only [Bool.not_true, Bool.false_eq_true, if_false, if_true]
        rw [gd_pos (by omega)]
        unfold orderR
        refine Eq.trans (scanR o.length (ordP b o) (ordN b o) (fun n s i => cut_CheckOrder_L1 b o n i s) (ordN b o o.length, (o.length : Int), 0) (fun j => ([], (j : Int), 6)) (by simp [ordN]) (fun n i hi => ?_) (fun n => ?_) (by omega)) rfl
        · have hx := gi_at hi
          have hc := col_in hall hx
          have hok := ordN_ok hb o i
          have ⟨hln, hxx⟩ := okL_iff.1 hok
          have hcl : (gi o i).toNat < (ordN b o i).length := by omega
          have hcast : (gi o i) = (((gi o i).toNat : Nat) : Int) := by omega
          have hopn : cut_open b (ordN b o i) (gi o i) = some (ordP b o i) := by
            have := open_eq hb hok hcl
            rw [← hcast] at this; exact this
          have hat := gi_at hcl
          have hg := hxx _ (gi_mem hcl)
          have hd := hb.d4
          show cut_CheckOrder_B1 b o (cut_CheckOrder_L1 b o n) _ _ = _
          unfold cut_CheckOrder_B1
          rw [if_pos (by omega), ix_nat hx, bnd_eq hopn]
          by_cases hp : ordP b o i = true
          · rw [if_pos hp, if_pos hp, ix_eq hc.1 hat, gd_pos (by omega), ix_eq hc.1 hat, gd_pos (by omega)]
            unfold ordP at hp
            simp only [ordN, hp, if_true]; rfl
          · rw [if_neg hp, if_neg hp]
        · show cut_CheckOrder_B1 b o (cut_CheckOrder_L1 b o n) _ _ = _
          unfold cut_CheckOrder_B1
          rw [if_neg (by omega)]; rfl
  · rw [if_neg hv, if_neg hv]
end Go.D4

set_option linter.unusedVariables false
set_option linter.unusedSimpArgs false
namespace Go.D4
open Go.Tb
theorem zw_at {f : Int → Int → Int} {h k : List Int} {i : Nat} {x y : Int} (hx : h[i]? = some x) (hy : k[i]? = some y) : (List.zipWith f h k)[i]? = some (f x y) := by
  rw [List.getElem?_zipWith, hx, hy]
theorem zw_gi {f : Int → Int → Int} {h k : List Int} (hl : k.length = h.length) {i : Nat} (hi : i < h.length) : gi (List.zipWith f h k) i = f (gi h i) (gi k i) :=
  gi_of (zw_at (gi_at hi) (gi_at (by omega)))
theorem joined_eq {h k : List Int} {F : Int → Int → Option Int} {f : Int → Int → Int} (hF : ∀ x y, F x y = some (f x y)) (hl : k.length = h.length) (hn : h.length ≤ 1000) : cut_joined h k F = some (List.zipWith f h k) := by
  unfold cut_joined
  have hzl : (List.zipWith f h k).length = h.length := by simp; omega
  refine Eq.trans (for0 h.length (fun i => (List.zipWith f h k).take i) (fun n s i => cut_joined_L1 h k F n i s) (some (List.zipWith f h k)) (by simp) (fun n i hi => ?_) (fun n => ?_) (by omega)) rfl
  · show cut_joined_B1 h k F (cut_joined_L1 h k F n) _ _ = _
    unfold cut_joined_B1
    have hz := zw_at (f := f) (gi_at hi) (gi_at (h := k) (c := i) (by omega))
    have e : (List.zipWith f h k).take (i + 1) = (List.zipWith f h k).take i ++ [f (gi h i) (gi k i)] := by
      rw [List.take_add_one, hz]; rfl
    rw [if_pos (by omega), ix_nat (gi_at hi), ix_nat (gi_at (by omega)), bnd_eq (hF _ _), gd_pos (by simp; omega), gd_pos (by omega), e]; rfl
  · show cut_joined_B1 h k F (cut_joined_L1 h k F n) _ _ = _
    unfold cut_joined_B1
    rw [if_neg (by omega)]
    unfold cut_joined_k1
    rw [List.take_of_length_le (by omega)]
theorem smaller_eq (x y : Int) : cut_smaller x y = some (min x y) := rfl
theorem greater_eq (x y : Int) : cut_greater x y = some (max x y) := rfl
def twoE (b : Bog) (h k : List Int) : Int := if hollowE b h = 0 then hollowE b k else hollowE b h
theorem two_eq {b : Bog} {h k : List Int} (hs : Short b) (hl : h.length ≤ 1000000) (kl : k.length ≤ 1000000) : cut_two b h k = some (twoE b h k) := by
  unfold cut_two twoE
  rw [bnd_eq (CheckHollow_eq hs hl)]
  by_cases h0 : hollowE b h = 0
  · rw [if_pos h0, if_pos h0, bnd_eq (CheckHollow_eq hs kl)]
  · rw [if_neg h0, if_neg h0]
theorem two0 {b : Bog} {h k : List Int} (h0 : twoE b h k = 0) : hollowE b h = 0 ∧ hollowE b k = 0 := by
  unfold twoE at h0
  split at h0
  · rename_i h; exact ⟨h, h0⟩
  · rename_i h; exact absurd h0 h
def joinR (f : Int → Int → Int) (b : Bog) (h k : List Int) : List Int × Int := if twoE b h k = 0 then (List.zipWith f h k, 0) else ([], twoE b h k)
theorem lens {b : Bog} {h k : List Int} (h0 : hollowE b h = 0) (k0 : hollowE b k = 0) : k.length = h.length ∧ h.length ≤ 6 := by
  have ⟨hb, ho, _⟩ := hollow0.1 h0
  have ⟨_, ko, _⟩ := hollow0.1 k0
  have := (okL_iff.1 ho).1; have := (okL_iff.1 ko).1; have := hb.n6
  omega
theorem Both_eq {b : Bog} {h k : List Int} (hs : Short b) (hl : h.length ≤ 1000000) (kl : k.length ≤ 1000000) : cut_Both b h k = some (joinR min b h k) := by
  unfold cut_Both joinR
  rw [bnd_eq (two_eq hs hl kl)]
  by_cases h0 : twoE b h k = 0
  · have ⟨a1, a2⟩ := two0 h0
    have ⟨l1, l2⟩ := lens a1 a2
    rw [if_pos h0, if_pos h0, bnd_eq (joined_eq smaller_eq l1 (by omega))]
  · rw [if_neg h0, if_neg h0]
theorem Either_eq {b : Bog} {h k : List Int} (hs : Short b) (hl : h.length ≤ 1000000) (kl : k.length ≤ 1000000) : cut_Either b h k = some (joinR max b h k) := by
  unfold cut_Either joinR
  rw [bnd_eq (two_eq hs hl kl)]
  by_cases h0 : twoE b h k = 0
  · have ⟨a1, a2⟩ := two0 h0
    have ⟨l1, l2⟩ := lens a1 a2
    rw [if_pos h0, if_pos h0, bnd_eq (joined_eq greater_eq l1 (by omega))]
  · rw [if_neg h0, if_neg h0]
theorem zw_self {f : Int → Int → Int} (hf : ∀ x, f x x = x) : ∀ h : List Int, List.zipWith f h h = h
  | [] => rfl
  | x :: r => by simp [hf, zw_self hf r]
theorem rightB_iff {h : List Int} : rightB h = true ↔ ∀ j, j < h.length → 1 ≤ j → -1 ≤ gi h j - gi h (j - 1) ∧ gi h j - gi h (j - 1) ≤ 1 := by
  unfold rightB
  simp only [decide_eq_true_eq, within_iff]
theorem hollow_zip {b : Bog} {h k : List Int} {f : Int → Int → Int} (hf : (∀ x y, f x y = min x y) ∨ (∀ x y, f x y = max x y)) (h0 : hollowE b h = 0) (k0 : hollowE b k = 0) : hollowE b (List.zipWith f h k) = 0 := by
  have ⟨l1, l2⟩ := lens h0 k0
  have ⟨hb, ho, hr⟩ := hollow0.1 h0
  have ⟨_, ko, kr⟩ := hollow0.1 k0
  have hzl : (List.zipWith f h k).length = h.length := by simp; omega
  refine hollow0.2 ⟨hb, okL_iff.2 ⟨by rw [hzl]; exact (okL_iff.1 ho).1, fun x hx => ?_⟩, rightB_iff.2 fun j hj h1 => ?_⟩
  · obtain ⟨i, hi⟩ := List.getElem?_of_mem hx
    have hlt := lt_of_at hi
    rw [zw_at (gi_at (by omega)) (gi_at (by omega))] at hi
    have e := Option.some.inj hi
    have b1 := (okL_iff.1 ho).2 _ (gi_mem (h := h) (c := i) (by omega))
    have b2 := (okL_iff.1 ko).2 _ (gi_mem (h := k) (c := i) (by omega))
    rcases hf with hf | hf <;> rw [hf] at e <;> omega
  · rw [hzl] at hj
    have r1 := rightB_iff.1 hr j hj h1
    have r2 := rightB_iff.1 kr j (by omega) h1
    rw [zw_gi l1 hj, zw_gi l1 (by omega)]
    rcases hf with hf | hf <;> rw [hf, hf] <;> omega
theorem colW_mm (b : Bog) (c : Nat) (x y : Int) : colW b c (min x y) + colW b c (max x y) = colW b c x + colW b c y := by
  by_cases h : x ≤ y
  · rw [show min x y = x by omega, show max x y = y by omega]
  · rw [show min x y = y by omega, show max x y = x by omega]; omega
theorem wsum_mm {b : Bog} {h k : List Int} (hl : k.length = h.length) : ∀ i, i ≤ h.length → wsum b (List.zipWith min h k) i + wsum b (List.zipWith max h k) i = wsum b h i + wsum b k i
  | 0, _ => rfl
  | i + 1, hi => by
    have ih := wsum_mm (b := b) hl i (by omega)
    have := colW_mm b i (gi h i) (gi k i)
    simp only [wsum]
    rw [zw_gi hl (by omega), zw_gi hl (by omega)]
    omega
end Go.D4

set_option linter.unusedVariables false
set_option linter.unusedSimpArgs false
namespace Go.D4
open Go.Tb
theorem find_loop {α R : Type} (l : List α) (P : α → Bool) (L : Nat → Int → Option R) (yes : Option R) (no : α → Option R)
    (step : ∀ (n i : Nat) (x : α), l[i]? = some x → L (n + 1) (i : Int) = if P x = true then no x else L n ((i + 1 : Nat) : Int))
    (stop : ∀ n : Nat, L (n + 1) (l.length : Int) = yes) : ∀ (d n i : Nat), l.length = i + d → d < n → L n (i : Int) = match (l.drop i).find? P with | none => yes | some x => no x
  | 0, n + 1, i, hd, hn => by
    have hi : i = l.length := by omega
    subst hi
    rw [stop n, List.drop_length]; rfl
  | d + 1, n + 1, i, hd, hn => by
    have hlt : i < l.length := by omega
    rw [step n i l[i] (by simp [hlt]), List.drop_eq_getElem_cons hlt, List.find?_cons]
    cases hp : P l[i]
    · rw [if_neg (by simp), find_loop l P L yes no step stop d n (i + 1) (by omega) (by omega)]
    · simp
theorem find_loop0 {α R : Type} (l : List α) (P : α → Bool) (L : Nat → Int → Option R) (yes : Option R) (no : α → Option R)
    (step : ∀ (n i : Nat) (x : α), l[i]? = some x → L (n + 1) (i : Int) = if P x = true then no x else L n ((i + 1 : Nat) : Int))
    (stop : ∀ n : Nat, L (n + 1) (l.length : Int) = yes) (hl : l.length ≤ 1000000) : L FU 0 = match l.find? P with | none => yes | some x => no x := by
  have := find_loop l P L yes no step stop l.length FU 0 (by omega) (by have := FU_pos; omega)
  simpa using this
/-- The first column that is open and not as deep as it shall be. -/
def nextC (b : Bog) (h at_ : List Int) : Option Nat := (List.range at_.length).find? fun c => decide (gi at_ c < gi h c) && openB b at_ c
def plan (b : Bog) (h : List Int) : Nat → List Int → List Int → List Int
  | 0, out, at_ => out
  | r + 1, out, at_ => match nextC b h at_ with
    | some c => plan b h r (out ++ [(c : Int)]) (bump at_ c)
    | none => out
structure Inv (b : Bog) (h at_ : List Int) (r : Nat) : Prop where
  ok : Ok b
  lh : okL b h = true
  rh : rightB h = true
  la : okL b at_ = true
  ra : rightB at_ = true
  le : ∀ c, c < h.length → gi at_ c ≤ gi h c
  r_ : isum h - isum at_ = (r : Int)
theorem Inv.len {b : Bog} {h at_ : List Int} {r : Nat} (i : Inv b h at_ r) : at_.length = h.length ∧ h.length ≤ 6 := by
  have := (okL_iff.1 i.lh).1; have := (okL_iff.1 i.la).1; have := i.ok.n6
  omega
theorem isum_bump : ∀ {l : List Int} {c : Nat}, c < l.length → isum (bump l c) = isum l + 1
  | x :: r, 0, _ => by simp [bump, isum, gi]; omega
  | x :: r, c + 1, h => by
    have := isum_bump (l := r) (c := c) (by simpa using h)
    simp only [bump, isum, List.set_cons_succ] at this ⊢
    have e : gi (x :: r) (c + 1) = gi r c := by simp [gi, List.getD]
    rw [e]; omega
theorem isum_le : ∀ {l m : List Int}, l.length = m.length → (∀ c, c < m.length → gi l c ≤ gi m c) → isum l ≤ isum m ∧ (isum l = isum m → l = m)
  | [], [], _, _ => by simp
  | x :: r, y :: s, hl, h => by
    have h0 := h 0 (by simp)
    have ih := isum_le (l := r) (m := s) (by simpa using hl) (fun c hc => by
      have := h (c + 1) (by simpa using hc)
      simpa [gi, List.getD] using this)
    simp only [gi, List.getD, List.getElem?_cons_zero, Option.getD_some] at h0
    simp only [isum]
    refine ⟨by omega, fun e => ?_⟩
    have e1 : x = y := by omega
    have e2 := ih.2 (by omega)
    rw [e1, e2]
theorem gi_bump {l : List Int} {c j : Nat} (hc : c < l.length) : gi (bump l c) j = if j = c then gi l c + 1 else gi l j := by
  unfold bump gi
  simp only [List.getD, List.getElem?_set]
  by_cases h : c = j
  · subst h; simp [hc]
  · rw [if_neg h, if_neg (fun e => h e.symm)]
/-- Among finitely many columns one with the smallest value. -/
theorem min_ex (P : Nat → Prop) (v : Nat → Int) : ∀ n : Nat, (∃ c, c < n ∧ P c) → ∃ c, c < n ∧ P c ∧ ∀ d, d < n → P d → v c ≤ v d
  | 0, ⟨c, h, _⟩ => absurd h (by omega)
  | n + 1, ⟨c, hc, hp⟩ => by
    by_cases h : ∃ c, c < n ∧ P c
    · obtain ⟨m, h1, h2, h3⟩ := min_ex P v n h
      by_cases hn : P n ∧ v n < v m
      · refine ⟨n, by omega, hn.1, fun d hd hpd => ?_⟩
        by_cases e : d = n
        · subst e; omega
        · have := h3 d (by omega) hpd; omega
      · refine ⟨m, by omega, h2, fun d hd hpd => ?_⟩
        by_cases e : d = n
        · subst e
          by_cases hv : v d < v m
          · exact absurd ⟨hpd, hv⟩ hn
          · omega
        · exact h3 d (by omega) hpd
    · have e : c = n := by
        by_cases e : c = n
        · exact e
        · exact absurd ⟨c, by omega, hp⟩ h
      subst e
      refine ⟨c, by omega, hp, fun d hd hpd => ?_⟩
      by_cases e : d = c
      · subst e; omega
      · exact absurd ⟨d, by omega, hpd⟩ h
theorem next_ex {b : Bog} {h at_ : List Int} {r : Nat} (i : Inv b h at_ (r + 1)) : ∃ c, nextC b h at_ = some c ∧ c < at_.length ∧ gi at_ c < gi h c ∧ openB b at_ c = true := by
  have ⟨hl, h6⟩ := i.len
  have hex : ∃ c, c < at_.length ∧ gi at_ c < gi h c := by
    refine Classical.byContradiction fun hno => ?_
    have e : at_ = h := (isum_le hl i.le).2 (by
      have h1 := (isum_le hl i.le).1
      have h2 := (isum_le (l := h) (m := at_) hl.symm (fun c hc => by
        have := Classical.byContradiction (p := ¬ gi at_ c < gi h c) (fun hh => hno ⟨c, hc, Classical.byContradiction hh⟩)
        omega)).1
      omega)
    have := i.r_
    rw [e] at this; omega
  obtain ⟨c, hc, hlt, hmin⟩ := min_ex (fun c => gi at_ c < gi h c) (gi at_) at_.length hex
  have hop : openB b at_ c = true := by
    unfold openB
    rw [Bool.and_eq_true, decide_eq_true_eq]
    have hx := (okL_iff.1 i.lh).2 _ (gi_mem (h := h) (c := c) (by omega))
    refine ⟨by omega, rightB_iff.2 fun j hj h1 => ?_⟩
    have hj' : j < at_.length := by simpa [bump] using hj
    have ra := rightB_iff.1 i.ra
    have rh := rightB_iff.1 i.rh
    rw [gi_bump hc, gi_bump hc]
    have r1 := ra j hj' h1
    have q1 := rh j (by omega) h1
    by_cases e1 : j = c
    · rw [if_pos e1, if_neg (by omega)]
      subst e1
      by_cases hm : gi at_ (j - 1) < gi h (j - 1)
      · have := hmin (j - 1) (by omega) hm; omega
      · have := i.le (j - 1) (by omega); omega
    · rw [if_neg e1]
      by_cases e2 : j - 1 = c
      · rw [if_pos e2]
        by_cases hm : gi at_ j < gi h j
        · have := hmin j hj' hm; rw [e2] at r1; omega
        · have := i.le j (by omega); rw [e2] at r1 q1; omega
      · rw [if_neg e2]; exact r1
  cases hn : nextC b h at_ with
  | none =>
    unfold nextC at hn
    rw [List.find?_eq_none] at hn
    exact absurd (by simp [hlt, hop]) (hn c (List.mem_range.2 hc))
  | some d =>
    unfold nextC at hn
    have h1 := List.find?_some hn
    have h2 := List.mem_range.1 (List.mem_of_find?_eq_some hn)
    simp only [Bool.and_eq_true, decide_eq_true_eq] at h1
    exact ⟨d, rfl, h2, h1.1, h1.2⟩
theorem Inv.next {b : Bog} {h at_ : List Int} {r c : Nat} (i : Inv b h at_ (r + 1)) (hc : c < at_.length) (hlt : gi at_ c < gi h c) (hop : openB b at_ c = true) : Inv b h (bump at_ c) r := by
  have hh := hollow0.1 (bump_hollow i.ok i.la hc hop)
  refine ⟨i.ok, i.lh, i.rh, hh.2.1, hh.2.2, fun j hj => ?_, ?_⟩
  · rw [gi_bump hc]
    split
    · rename_i e; subst e; omega
    · exact i.le j hj
  · rw [isum_bump hc]; have := i.r_; omega
theorem Inv.zero {b : Bog} {h : List Int} (h0 : hollowE b h = 0) : Inv b h (List.replicate h.length 0) (isum h).toNat ∧ (isum h).toNat ≤ 24 := by
  have ⟨hb, ho, hr⟩ := hollow0.1 h0
  have ⟨hl, hx⟩ := okL_iff.1 ho
  have g0 : ∀ c, gi (List.replicate h.length 0) c = 0 := fun c => by
    unfold gi; simp only [List.getD, List.getElem?_replicate]; split <;> rfl
  have s0 : ∀ n, isum (List.replicate n 0) = 0 := fun n => by
    induction n with
    | zero => rfl
    | succ n ih => simp [List.replicate_succ, isum, ih]
  have nn : 0 ≤ isum h ∧ isum h ≤ 4 * (h.length : Int) := by
    have hd := hb.d4
    clear hl ho hr h0 g0
    induction h with
    | nil => simp [isum]
    | cons x r ih =>
      have := ih (fun y hy => hx y (List.mem_cons_of_mem _ hy))
      have := hx x (List.mem_cons_self ..)
      simp only [isum, List.length_cons]; omega
  have h6 := hb.n6
  refine ⟨⟨hb, ho, hr, by rw [hl]; exact okL_zero hb, rightB_iff.2 fun j hj h1 => by rw [g0, g0]; omega, fun c hc => ?_, ?_⟩, by omega⟩
  · rw [g0]; exact (hx _ (gi_mem hc)).1
  · rw [s0]; omega
theorem Equal_eq {l m : List Int} (hl : l.length ≤ 1000) (hm : m.length = l.length) : slices_Equal_int l m = some (decide (l = m)) := by
  unfold slices_Equal_int
  rw [if_pos (by omega), list_loop0 (List.range l.length) (fun i => decide (gi l i = gi m i)) (slices_Equal_int_L1 l m) (some true) (some false) (fun n i x hx => ?_) (fun n => ?_) (by simp; omega)]
  · by_cases h : l = m
    · rw [if_pos (List.all_eq_true.2 fun i _ => by rw [h]; simp)]; simp [h]
    · rw [if_neg (fun ha => h (List.ext_getElem? fun i => ?_))]; simp [h]
      by_cases hi : i < l.length
      · have := List.all_eq_true.1 ha i (List.mem_range.2 hi)
        rw [gi_at hi, gi_at (by omega)]; simpa using this
      · rw [List.getElem?_eq_none (by omega), List.getElem?_eq_none (by omega)]
  · have hi := lt_of_at hx
    simp at hi
    have e : x = i := by simp [hi] at hx; exact hx.symm
    subst e
    show slices_Equal_int_B1 l m (slices_Equal_int_L1 l m n) _ = _
    unfold slices_Equal_int_B1
    rw [if_pos (by omega), ix_nat (gi_at hi), ix_nat (gi_at (by omega)), gd_pos (by omega)]
    by_cases h : gi l x = gi m x <;> simp [h]
  · show slices_Equal_int_B1 l m (slices_Equal_int_L1 l m n) _ = _
    unfold slices_Equal_int_B1
    rw [List.length_range, if_neg (by omega)]; rfl
theorem Inv.done {b : Bog} {h at_ : List Int} (i : Inv b h at_ 0) : at_ = h := by
  have ⟨hl, _⟩ := i.len
  exact (isum_le hl i.le).2 (by have := i.r_; omega)
theorem Inv.not_done {b : Bog} {h at_ : List Int} {r : Nat} (i : Inv b h at_ (r + 1)) : at_ ≠ h := fun e => by
  have := i.r_
  rw [e] at this; omega
theorem Order_loop {b : Bog} {h : List Int} : ∀ (r n : Nat) (out at_ : List Int), Inv b h at_ r → out.length + r ≤ 24 → r < n → cut_Order_L2 b h n out at_ = some (plan b h r out at_, 0)
  | 0, n + 1, out, at_, i, hr, hn => by
    have ⟨hl, h6⟩ := i.len
    show cut_Order_B2 b h (cut_Order_L2 b h n) out at_ = _
    unfold cut_Order_B2
    rw [bnd_eq (Equal_eq (by omega) hl.symm), i.done]; simp [cut_Order_k1, plan]
  | r + 1, n + 1, out, at_, i, hr, hn => by
    have ⟨hl, h6⟩ := i.len
    obtain ⟨c, hnx, hc, hlt, hop⟩ := next_ex i
    show cut_Order_B2 b h (cut_Order_L2 b h n) out at_ = _
    unfold cut_Order_B2
    rw [bnd_eq (Equal_eq (by omega) hl.symm), if_neg (by simp; exact i.not_done)]
    have hx := (okL_iff.1 i.la).2
    have hd := i.ok.d4
    rw [find_loop0 (List.range at_.length) (fun c => decide (gi at_ c < gi h c) && openB b at_ c) (cut_Order_L1 b h out at_ (cut_Order_L2 b h n)) (cut_Order_L2 b h n out at_) (fun c => cut_Order_L2 b h n (out ++ [(c : Int)]) (bump at_ c)) (fun m j x hx' => ?_) (fun m => ?_) (by simp; omega)]
    · have e := hnx
      unfold nextC at e
      rw [e]
      show cut_Order_L2 b h n (out ++ [(c : Int)]) (bump at_ c) = _
      rw [Order_loop r n _ _ (i.next hc hlt hop) (by simp; omega) (by omega)]
      simp only [plan, hnx]
    · have hj := lt_of_at hx'
      simp at hj
      have e : x = j := by simp [hj] at hx'; exact hx'.symm
      subst e
      have hg := hx _ (gi_mem hj)
      show cut_Order_B1 b h out at_ (cut_Order_L2 b h n) (cut_Order_L1 b h out at_ (cut_Order_L2 b h n) m) _ = _
      unfold cut_Order_B1 cut_Order_k2
      rw [if_pos (by omega), ix_nat (gi_at hj), ix_nat (gi_at (by omega))]
      by_cases h1 : gi at_ x < gi h x
      · rw [if_pos h1, bnd_eq (open_eq i.ok i.la hj)]
        by_cases h2 : openB b at_ x = true
        · rw [if_pos h2, ix_nat (gi_at hj), gd_pos (by omega), ix_nat (gi_at hj), gd_pos (by simp; omega)]
          simp only [h1, h2, decide_true, Bool.true_and, if_true]; rfl
        · rw [if_neg h2, gd_pos (by omega)]
          simp only [h1, h2, decide_true, Bool.true_and, if_false]; rfl
      · rw [if_neg h1, if_neg (by simp), gd_pos (by omega)]
        simp only [h1, decide_false, Bool.false_and, if_false]; rfl
    · show cut_Order_B1 b h out at_ (cut_Order_L2 b h n) (cut_Order_L1 b h out at_ (cut_Order_L2 b h n) m) _ = _
      unfold cut_Order_B1
      rw [List.length_range, if_neg (by omega)]
end Go.D4

set_option linter.unusedVariables false
set_option linter.unusedSimpArgs false
namespace Go.D4
open Go.Tb
def planR (b : Bog) (h : List Int) : List Int × Int := if hollowE b h = 0 then (plan b h (isum h).toNat [] (List.replicate h.length 0), 0) else ([], hollowE b h)
theorem Order_eq {b : Bog} {h : List Int} (hs : Short b) (hl : h.length ≤ 1000000) : cut_Order b h = some (planR b h) := by
  unfold cut_Order planR
  rw [bnd_eq (CheckHollow_eq hs hl)]
  by_cases h0 : hollowE b h = 0
  · have ⟨i, h24⟩ := Inv.zero h0
    have ⟨_, h6⟩ := i.len
    have e : Int.toNat (h.length : Int) = h.length := by omega
    rw [if_pos h0, if_pos h0, gd_pos (by omega), e, Order_loop _ FU _ _ i (by simpa using h24) (by have := FU_pos; omega)]
  · rw [if_neg h0, if_neg h0]
/-- What is known of an order that has been made so far. -/
structure Led (b : Bog) (out at_ : List Int) : Prop where
  cols : ∀ x ∈ out, inCols b x = true
  all : ∀ j, j < out.length → ordP b out j = true
  to : ordN b out out.length = at_
theorem ordN_pre {b : Bog} {o s : List Int} : ∀ i, i ≤ o.length → ordN b (o ++ s) i = ordN b o i
  | 0, _ => rfl
  | i + 1, h => by
    have ih := ordN_pre (b := b) (o := o) (s := s) i (by omega)
    have e : gi (o ++ s) i = gi o i := by
      have hlt : i < o.length := by omega
      unfold gi
      simp only [List.getD, List.getElem?_append_left hlt]
    show (if openB b (ordN b (o ++ s) i) (gi (o ++ s) i).toNat = true then _ else _) = (if _ then _ else _)
    rw [ih, e]
theorem Led.next {b : Bog} {out at_ : List Int} {c : Nat} (l : Led b out at_) (hc : c < b.worth.length) (hop : openB b at_ c = true) : Led b (out ++ [(c : Int)]) (bump at_ c) := by
  have e : gi (out ++ [(c : Int)]) out.length = (c : Int) := gi_of (by simp)
  have e2 : ordN b (out ++ [(c : Int)]) out.length = at_ := by rw [ordN_pre _ (Nat.le_refl _), l.to]
  refine ⟨fun x hx => ?_, fun j hj => ?_, ?_⟩
  · rcases List.mem_append.1 hx with h | h
    · exact l.cols x h
    · have : x = (c : Int) := by simpa using h
      rw [this]; exact within_iff.2 (by omega)
  · by_cases hjl : j < out.length
    · have h1 := l.all j hjl
      unfold ordP at h1 ⊢
      have e3 : gi (out ++ [(c : Int)]) j = gi out j := by
        unfold gi
        simp only [List.getD, List.getElem?_append_left hjl]
      rw [ordN_pre _ (by omega), e3]; exact h1
    · have : j = out.length := by simp at hj; omega
      subst this
      unfold ordP
      rw [e2, e]; exact hop
  · rw [List.length_append, List.length_singleton]
    show (if openB b (ordN b (out ++ [(c : Int)]) out.length) (gi (out ++ [(c : Int)]) out.length).toNat = true then _ else _) = _
    rw [e2, e]
    have et : ((c : Int)).toNat = c := by omega
    rw [et, if_pos hop]
theorem plan_led {b : Bog} {h : List Int} : ∀ (r : Nat) (out at_ : List Int), Inv b h at_ r → Led b out at_ → Led b (plan b h r out at_) h ∧ (plan b h r out at_).length = out.length + r
  | 0, out, at_, i, l => by
    have e := i.done
    subst e
    exact ⟨l, rfl⟩
  | r + 1, out, at_, i, l => by
    obtain ⟨c, hnx, hc, hlt, hop⟩ := next_ex i
    have hcl : c < b.worth.length := by have := (okL_iff.1 i.la).1; omega
    have := plan_led r _ _ (i.next hc hlt hop) (l.next hcl hop)
    simp only [plan, hnx]
    refine ⟨this.1, by rw [this.2]; simp; omega⟩
theorem Led.check {b : Bog} {o h : List Int} (hb : Ok b) (l : Led b o h) (h24 : o.length ≤ 24) : checkR b o = (h, (o.length : Int), 0) := by
  unfold checkR orderR
  rw [if_pos (val0.2 hb), if_neg (by omega), if_pos (List.all_eq_true.2 l.cols)]
  have hf : (List.range' 0 o.length).find? (fun j => !ordP b o j) = none := find_all.2 fun j _ hj => l.all j (by omega)
  rw [hf, l.to]
end Go.D4

set_option linter.unusedVariables false
set_option linter.unusedSimpArgs false
namespace Go.D4
open Go.Tb
/-- A bog of n columns with d blocks each. -/
def shape (n d : Nat) : Bog := ⟨List.replicate n (List.replicate d 0)⟩
def a6 (x : Arr6) : List Int := [x.at0, x.at1, x.at2, x.at3, x.at4, x.at5]
def stepOk (h : List Int) (x : Int) : Bool := match h.getLast? with | none => true | some y => within (x - y) (-1) 1
def specL (d : Nat) : Nat → List (List Int)
  | 0 => [[]]
  | c + 1 => (specL d c).flatMap fun h => (((List.range (d + 1)).map fun (x : Nat) => (x : Int)).filter (stepOk h)).map fun x => h ++ [x]
def agree (n d : Nat) : Bool := match cut_all (shape n d) with
  | some l => l.map a6 == (specL d n).map fun h => h ++ List.replicate (6 - n) 0
  | none => false
end Go.D4

set_option linter.unusedVariables false
set_option linter.unusedSimpArgs false
namespace Go.D4
open Go.Tb
section
variable {a b : Bog} (hw : a.worth.length = b.worth.length) (hd : cut_depth a = cut_depth b)
include hw hd
theorem all_k1 (l1 : List Arr6) (l2 : List Int) (rec1 : List Arr6 → List Int → Option (List Arr6)) : cut_all_k1 a l1 l2 rec1 = cut_all_k1 b l1 l2 rec1 := by
  unfold cut_all_k1; simp only [hw, hd]
theorem all_L1 (l1 : List Arr6) (l2 : List Int) (rec1 : List Arr6 → List Int → Option (List Arr6)) : ∀ n t, cut_all_L1 a l1 l2 rec1 n t = cut_all_L1 b l1 l2 rec1 n t
  | 0, t => rfl
  | n + 1, t => by
    show cut_all_B1 a l1 l2 rec1 (cut_all_L1 a l1 l2 rec1 n) t = cut_all_B1 b l1 l2 rec1 (cut_all_L1 b l1 l2 rec1 n) t
    have e : cut_all_L1 a l1 l2 rec1 n = cut_all_L1 b l1 l2 rec1 n := funext fun t => all_L1 l1 l2 rec1 n t
    rw [e]
    unfold cut_all_B1
    simp only [hw, hd, all_k1 hw hd]
theorem all_L2 : ∀ n l1 l2, cut_all_L2 a n l1 l2 = cut_all_L2 b n l1 l2
  | 0, l1, l2 => rfl
  | n + 1, l1, l2 => by
    show cut_all_B2 a (cut_all_L2 a n) l1 l2 = cut_all_B2 b (cut_all_L2 b n) l1 l2
    have e : cut_all_L2 a n = cut_all_L2 b n := funext fun l1 => funext fun l2 => all_L2 n l1 l2
    rw [e]
    unfold cut_all_B2
    rw [all_L1 hw hd]
theorem all_congr : cut_all a = cut_all b := all_L2 hw hd FU _ _
end
theorem shape_depth {n d : Nat} (hn : 1 ≤ n) : cut_depth (shape n d) = some (d : Int) := by
  have hx : (shape n d).worth[0]? = some (List.replicate d 0) := by unfold shape; simp only [List.getElem?_replicate]; rw [if_pos (by omega)]
  unfold cut_depth
  rw [ix0 hx]; simp
theorem all_shape {b : Bog} (hb : Ok b) : cut_all b = cut_all (shape b.worth.length (dep b).toNat) :=
  all_congr (by simp [shape]) (by rw [depth_eq hb.n1, shape_depth hb.n1, show (((dep b).toNat : Nat) : Int) = dep b by have := hb.d1; omega])
theorem mem_spec {d : Nat} : ∀ (c : Nat) (h : List Int), h ∈ specL d c ↔ h.length = c ∧ (∀ x ∈ h, 0 ≤ x ∧ x ≤ (d : Int)) ∧ rightB h = true
  | 0, h => by
    simp only [specL, List.mem_singleton]
    constructor
    · rintro rfl; exact ⟨rfl, by simp, by decide⟩
    · rintro ⟨h1, _, _⟩; exact List.length_eq_zero_iff.1 h1
  | c + 1, h => by
    have ih := mem_spec (d := d) c
    have key : ∀ (g : List Int) (x : Int), g.length = c → (rightB (g ++ [x]) = true ↔ rightB g = true ∧ stepOk g x = true) := fun g x hg => by
      have g1 : ∀ j, j < g.length → gi (g ++ [x]) j = gi g j := fun j hj => by
        unfold gi
        simp only [List.getD, List.getElem?_append_left hj]
      have g2 : gi (g ++ [x]) g.length = x := gi_of (by simp)
      have hs : stepOk g x = true ↔ (1 ≤ g.length → -1 ≤ x - gi g (g.length - 1) ∧ x - gi g (g.length - 1) ≤ 1) := by
        unfold stepOk
        cases hl : g.getLast? with
        | none => have := List.getLast?_eq_none_iff.1 hl; subst this; simp
        | some y =>
          rw [List.getLast?_eq_getElem?] at hl
          have hlt := lt_of_at hl
          rw [gi_of hl]
          simp only [within_iff]
          exact ⟨fun h _ => h, fun h => h (by omega)⟩
      rw [rightB_iff, rightB_iff, hs]
      constructor
      · intro h
        refine ⟨fun j hj h1 => ?_, fun h1 => ?_⟩
        · have := h j (by simp; omega) h1
          rw [g1 j hj, g1 (j - 1) (by omega)] at this; exact this
        · have := h g.length (by simp) h1
          rw [g2, g1 (g.length - 1) (by omega)] at this; exact this
      · rintro ⟨h1, h2⟩ j hj h3
        by_cases e : j = g.length
        · subst e
          rw [g2, g1 (g.length - 1) (by omega)]; exact h2 h3
        · have hj' : j < g.length := by simp at hj; omega
          rw [g1 j hj', g1 (j - 1) (by omega)]; exact h1 j hj' h3
    simp only [specL, List.mem_flatMap, List.mem_map, List.mem_filter, List.mem_range]
    constructor
    · rintro ⟨g, hg, x, ⟨⟨y, hy, rfl⟩, hst⟩, rfl⟩
      obtain ⟨h1, h2, h3⟩ := (ih g).1 hg
      refine ⟨by simp [h1], fun z hz => ?_, (key g _ h1).2 ⟨h3, hst⟩⟩
      rcases List.mem_append.1 hz with h | h
      · exact h2 z h
      · have : z = (y : Int) := by simpa using h
        omega
    · rintro ⟨h1, h2, h3⟩
      have hne : h ≠ [] := by intro e; rw [e] at h1; simp at h1
      have e := List.dropLast_concat_getLast hne
      have hl : h.dropLast.length = c := by simp [h1]
      have hlast := h2 (h.getLast hne) (List.getLast_mem hne)
      rw [← e] at h3
      obtain ⟨k1, k2⟩ := (key _ _ hl).1 h3
      refine ⟨h.dropLast, (ih _).2 ⟨hl, fun z hz => h2 z (by rw [List.dropLast_eq_take] at hz; exact List.mem_of_mem_take hz), k1⟩, h.getLast hne, ⟨⟨(h.getLast hne).toNat, by omega, by omega⟩, k2⟩, e⟩
end Go.D4

set_option linter.unusedVariables false
set_option linter.unusedSimpArgs false
namespace Go.D4
theorem agree_n {n d : Nat} (h1 : 1 ≤ n) (h2 : n ≤ 5) (h3 : 1 ≤ d) (h4 : d ≤ 4) : agree n d = true := by
  have e : ∀ n ∈ List.range' 1 5, ∀ d ∈ List.range' 1 4, agree n d = true := by decide +kernel
  exact e n (by rw [List.mem_range'_1]; omega) d (by rw [List.mem_range'_1]; omega)
end Go.D4

set_option linter.unusedVariables false
set_option linter.unusedSimpArgs false
namespace Go.D4
set_option maxHeartbeats 0 in
theorem agree_61 : agree 6 1 = true := by decide +kernel
set_option maxHeartbeats 0 in
theorem agree_62 : agree 6 2 = true := by decide +kernel
set_option maxHeartbeats 0 in
theorem agree_63 : agree 6 3 = true := by decide +kernel
set_option maxHeartbeats 0 in
theorem agree_64 : agree 6 4 = true := by decide +kernel
theorem agree_all {n d : Nat} (h1 : 1 ≤ n) (h2 : n ≤ 6) (h3 : 1 ≤ d) (h4 : d ≤ 4) : agree n d = true := by
  by_cases h : n = 6
  · subst h
    have : d = 1 ∨ d = 2 ∨ d = 3 ∨ d = 4 := by omega
    rcases this with rfl | rfl | rfl | rfl
    · exact agree_61
    · exact agree_62
    · exact agree_63
    · exact agree_64
  · exact agree_n h1 (by omega) h3 h4
end Go.D4
